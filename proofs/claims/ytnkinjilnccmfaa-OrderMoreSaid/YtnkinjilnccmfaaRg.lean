/- A region that draws its order, whose head makes memory and calls: each operation of the head leaves what it says of its value, in whatever order they come; then a tail in one forced order. -/
import Derived.Test.YtnkinjilnccmfaaReg
import Derived.Test.YtnkinjilnccmfaaBlk
namespace Go.Own
open Go.RowKit

theorem count_set_true : ∀ (l : List Bool) (i : Nat), l[i]? = some false → (l.set i true).count false + 1 = l.count false
  | [], i, h => by simp at h
  | b :: l, 0, h => by simp at h; subst h; simp
  | b :: l, i + 1, h => by
    have := count_set_true l i (by simpa using h)
    cases b <;> simp [← this]

/-- Every edge leads to an operation before. -/
def edgesB (ops : Array Oper) : Bool := (List.range ops.size).all fun i => match ops[i]? with | some o => o.after.all fun e => !Region.binds .any e || decide (e.on < i) | none => true
/-- The temporaries that the first n operations write: each by one alone, and no guard stands. -/
def dstsB (ops : Array Oper) (n N : Nat) : Bool := (List.range n).all fun i => match ops[i]? with
  | some o => o.guard.isNone && (match o.dst with | some d => decide (d < N) | none => false) && (List.range n).all fun j => i == j || (match ops[j]? with | some o' => o'.dst != o.dst | none => true)
  | none => false

/-- The frame with the values of the first n operations in their temporaries. -/
def putAll (ops : List Oper) (a : Act) (vs : Nat → Value) : Nat → Act
  | 0 => a
  | k + 1 => (putAll ops a vs k).put ((ops[k]?).bind (·.dst)) (vs k)

theorem getD_both' {listed : Array Bool} {i : Nat} (h : listed.getD i true = true) (hi : i < listed.size) : listed.getD i false = true := by
  simpa [hi] using h

section
variable {P : Program} {ops : Array Oper} {n : Nat}

theorem put_getD (a : Act) (d : Tmp) (v : Value) (t : Nat) (ht : t < a.tmps.size) : (a.put (some d) v).tmps.getD t undef = if d = t then v else a.tmps.getD t undef := by
  simp only [Act.put, Array.getD_eq_getD_getElem?, Array.getElem?_setIfInBounds]
  by_cases h : d = t
  · subst h; simp [ht]
  · simp [h]
theorem put_size (a : Act) (d : Option Tmp) (v : Value) : (a.put d v).tmps.size = a.tmps.size := by cases d <;> simp [Act.put]
theorem put_defers (a : Act) (d : Option Tmp) (v : Value) : (a.put d v).defers = a.defers := by cases d <;> rfl
theorem putAll_size (l : List Oper) (a : Act) (vs : Nat → Value) (k : Nat) : (putAll l a vs k).tmps.size = a.tmps.size := by
  induction k with
  | zero => rfl
  | succ k ih => rw [putAll, put_size, ih]
theorem putAll_defers (l : List Oper) (a : Act) (vs : Nat → Value) (k : Nat) : (putAll l a vs k).defers = a.defers := by
  induction k with
  | zero => rfl
  | succ k ih => rw [putAll, put_defers, ih]

structure RgInv (ops : Array Oper) (n : Nat) (Post : Nat → Value → World → Prop) (a0 : Act) (w0 : World) (listed : Array Bool) (a : Act) (w : World) : Prop where
  size : a.tmps.size = a0.tmps.size
  defers : a.defers = a0.defers
  frame : ∀ t, (∀ i o, i < n → ops[i]? = some o → o.dst ≠ some t) → a.tmps.getD t undef = a0.tmps.getD t undef
  below : Below w0.heap.size w0 w
  post : ∀ i o d, i < n → listed.getD i false = true → ops[i]? = some o → o.dst = some d → Post i (a.tmps.getD d undef) w

theorem dstsB_spec {N : Nat} (h : dstsB ops n N = true) {i : Nat} (hi : i < n) : ∃ o d, ops[i]? = some o ∧ o.guard = none ∧ o.dst = some d ∧ d < N ∧ ∀ j o', j < n → ops[j]? = some o' → i ≠ j → o'.dst ≠ some d := by
  have h1 := List.all_eq_true.1 h i (List.mem_range.2 hi)
  cases ho : ops[i]? with
  | none => simp [ho] at h1
  | some o =>
    simp only [ho, Bool.and_eq_true, Option.isNone_iff_eq_none] at h1
    obtain ⟨⟨hg, hd'⟩, hall⟩ := h1
    obtain ⟨d, hd⟩ : ∃ d, o.dst = some d := by cases h : o.dst with
      | none => rw [h] at hd'; cases hd'
      | some d => exact ⟨d, rfl⟩
    have hdN : d < N := by rw [hd] at hd'; simpa using hd'
    refine ⟨o, d, rfl, hg, hd, hdN, fun j o' hj ho' hne => ?_⟩
    have h2 := List.all_eq_true.1 hall j (List.mem_range.2 hj)
    simp only [ho', Bool.or_eq_true, beq_iff_eq, hne, false_or, bne_iff_ne, ne_eq, hd] at h2
    exact h2

theorem edgesB_spec (h : edgesB ops = true) {i : Nat} {o : Oper} (ho : ops[i]? = some o) : ∀ e ∈ o.after, Region.binds .any e = true → e.on < i := by
  have hi := (Array.getElem?_eq_some_iff.1 ho).1
  have h1 := List.all_eq_true.1 h i (List.mem_range.2 hi)
  simp only [ho] at h1
  intro e he hb
  have h2 := Array.all_eq_true_iff_forall_mem.1 h1 e he
  rw [hb] at h2
  simpa using h2

/-- The least operation that has not come up is ready. -/
theorem ready_least (he : edgesB ops = true) {listed : Array Bool} (hs : listed.size = ops.size) {i : Nat} (hi : i < ops.size) (hun : listed.getD i true = false) (hl : ∀ j, j < i → listed.getD j true = true) : i ∈ Region.ready .any ops listed := by
  rw [mem_ready]
  have ho : ops[i]? = some ops[i] := by simp [hi]
  refine ⟨hun, _, ho, fun e hem hb => ?_⟩
  have h1 := edgesB_spec he ho e hem hb
  have h2 := hl _ h1
  have h3 : e.on < listed.size := by omega
  simpa [h3] using h2

theorem rg_any (Post : Nat → Value → World → Prop) (stable : ∀ i v w w', Post i v w → Below w.heap.size w w' → Post i v w') (a0 : Act) (w0 : World) {Q : Exit → Act → World → Prop} {g : Nat}
    (he : edgesB ops = true) (hd : dstsB ops n a0.tmps.size = true) (hs : Region.sinkB .any ops n = true) (hc : Region.chainB .any ops n = true) (hn : n < ops.size)
    (hop : ∀ i o a w, i < n → ops[i]? = some o → a.tmps.size = a0.tmps.size → Below w0.heap.size w0 w →
      (∀ t, (∀ i o, i < n → ops[i]? = some o → o.dst ≠ some t) → a.tmps.getD t undef = a0.tmps.getD t undef) →
      (∀ e ∈ o.after, Region.binds .any e = true → ∀ oj d, ops[e.on]? = some oj → oj.dst = some d → Post e.on (a.tmps.getD d undef) w) →
      o.wp P a w (fun a' w' => ∃ v, a' = a.put o.dst v ∧ Post i v w' ∧ Below w.heap.size w w') Q)
    (hend : ∀ listed a w, listed.size = ops.size → (∀ i, i < n → listed.getD i true = true) → (∀ t, n ≤ t → t < ops.size → listed.getD t true = false) →
      RgInv ops n Post a0 w0 listed a w → wpAny P .any ops Q g listed a w) (f : Nat) :
    ∀ (listed : Array Bool) (a : Act) (w : World), HeadInv .any ops n listed → RgInv ops n Post a0 w0 listed a w → ((listed.toList.take n).count false = f) → wpAny P .any ops Q (f + g) listed a w := by
  induction f with
  | zero =>
    intro listed a w inv rg hf
    rw [Nat.zero_add]
    refine hend listed a w inv.size (fun i hi => ?_) inv.tail rg
    have hlt : i < listed.size := by rw [inv.size]; omega
    have h0 := List.count_eq_zero.1 hf
    have h1 : listed[i] ∈ listed.toList.take n := by
      rw [List.mem_take_iff_getElem]
      exact ⟨i, by simp; omega, by simp⟩
    cases hb : listed[i] with
    | true => simp [hlt, hb]
    | false => rw [hb] at h1; exact absurd h1 h0
  | succ f ih =>
    intro listed a w inv rg hf
    have hex : ∃ i, i < n ∧ listed.getD i true = false := by
      have : false ∈ listed.toList.take n := List.count_pos_iff.1 (by omega)
      rw [List.mem_take_iff_getElem] at this
      obtain ⟨i, hi, hb⟩ := this
      simp only [Array.length_toList] at hi
      exact ⟨i, by omega, by simp [show i < listed.size by omega]; simpa using hb⟩
    obtain ⟨i0, hi0, hun0⟩ := hex
    have hne : Region.ready .any ops listed ≠ [] := by
      -- the least one
      have key : ∀ m, m < n → listed.getD m true = false → ∃ k, k ≤ m ∧ listed.getD k true = false ∧ ∀ j, j < k → listed.getD j true = true := by
        intro m
        induction m using Nat.strongRecOn with
        | _ m ihm =>
          intro hm hu
          by_cases hx : ∃ j, j < m ∧ listed.getD j true = false
          · obtain ⟨j, hj, hju⟩ := hx
            obtain ⟨k, hk, h⟩ := ihm j hj (by omega) hju
            exact ⟨k, by omega, h⟩
          · exact ⟨m, Nat.le_refl _, hu, fun j hj => by
              cases hb : listed.getD j true with
              | true => rfl
              | false => exact absurd ⟨j, hj, hb⟩ hx⟩
      obtain ⟨k, hk, hu, hl⟩ := key i0 hi0 hun0
      exact List.ne_nil_of_mem (ready_least he inv.size (by omega) hu hl)
    rw [Nat.add_right_comm]
    refine ⟨fun h0 => absurd h0 hne, fun i hi => ?_⟩
    have hin : i < n := (Nat.lt_or_ge i n).resolve_right fun h => absurd hi (tail_waits hs hc hn inv _ i0 rfl hi0 hun0 i h)
    obtain ⟨o, d, ho, hg, hdst, hdN, huniq⟩ := dstsB_spec hd hin
    obtain ⟨hun, o', ho', hall⟩ := mem_ready.1 hi
    obtain rfl : o = o' := Option.some.inj (ho.symm.trans ho')
    have hlt : i < listed.size := by rw [inv.size]; omega
    have hw := hop i o a w hin ho rg.size rg.below rg.frame (fun e hem hb oj dj hoj hdj => rg.post e.on oj dj (by have := edgesB_spec he ho e hem hb; omega) (hall e hem hb) hoj hdj)
    unfold wpOp
    simp only [ho]
    rw [if_pos (by simp [Region.wanted, hg])]
    refine .inl (Oper.wp_mono ?_ hw)
    rintro a' w' ⟨v, rfl, hpost, hbelow⟩
    refine ih _ _ _ (inv.set hi hin) ⟨?_, ?_, ?_, ?_, ?_⟩ ?_
    · rw [put_size]; exact rg.size
    · rw [put_defers]; exact rg.defers
    · intro t ht
      rw [← rg.frame t ht, hdst]
      by_cases htl : t < a.tmps.size
      · rw [put_getD _ _ _ _ htl, if_neg (fun h => ht i o hin ho (by rw [hdst, h]))]
      · simp [Act.put, Array.getElem?_eq_none (Nat.le_of_not_lt htl), show ¬ t < a.tmps.size from htl]
    · exact rg.below.trans (hbelow.mono rg.below.size)
    · intro k ok dk hk hl hok hdk
      by_cases hki : k = i
      · subst hki
        obtain rfl : ok = o := Option.some.inj (hok.symm.trans ho)
        obtain rfl : dk = d := Option.some.inj (hdk.symm.trans hdst)
        rw [hdst]
        rw [put_getD _ _ _ _ (by rw [rg.size]; exact hdN), if_pos rfl]; exact hpost
      · have hne : dk ≠ d := fun h => huniq k ok hk hok (Ne.symm hki) (by rw [hdk, h])
        have hl' : listed.getD k false = true := by
          rw [getD_set_ne false (Ne.symm hki)] at hl; exact hl
        have h1 := stable _ _ _ _ (rg.post k ok dk hk hl' hok hdk) hbelow
        rw [hdst]
        by_cases htl : dk < a.tmps.size
        · rw [put_getD _ _ _ _ htl, if_neg (Ne.symm hne)]; exact h1
        · simpa [Act.put, Array.getElem?_eq_none (Nat.le_of_not_lt htl), show ¬ dk < a.tmps.size from htl] using h1
    · have h1 : (listed.toList.take n)[i]? = some false := by
        rw [List.getElem?_take_of_lt hin]
        simp only [Array.getElem?_toList]
        simp [hlt] at hun ⊢
        exact hun
      have h2 := count_set_true _ _ h1
      rw [Array.toList_setIfInBounds, List.take_set]
      omega

theorem putAll_other (l : List Oper) (a0 : Act) (vs : Nat → Value) (t : Nat) (ht : t < a0.tmps.size) : ∀ k, (∀ i o, i < k → l[i]? = some o → o.dst ≠ some t) → (putAll l a0 vs k).tmps.getD t undef = a0.tmps.getD t undef := by
  intro k
  induction k with
  | zero => intro _; rfl
  | succ k ih =>
    intro h
    rw [putAll, ← ih (fun i o hi ho => h i o (by omega) ho)]
    cases hk : (l[k]?).bind (·.dst) with
    | none => rfl
    | some d =>
      obtain ⟨o, ho, hd⟩ := Option.bind_eq_some_iff.1 hk
      rw [put_getD _ _ _ _ (by rw [putAll_size]; exact ht), if_neg (fun e => h k o (by omega) ho (by rw [hd, e]))]

theorem putAll_at (l : List Oper) (a0 : Act) (vs : Nat → Value) (m : Nat) (d : Tmp) (hd : d < a0.tmps.size) (o : Oper) (ho : l[m]? = some o) (hod : o.dst = some d) :
    ∀ k, m < k → (∀ j o', j < k → l[j]? = some o' → m ≠ j → o'.dst ≠ some d) → (putAll l a0 vs k).tmps.getD d undef = vs m := by
  intro k
  induction k with
  | zero => intro h; omega
  | succ k ih =>
    intro hm h
    rw [putAll]
    by_cases hmk : m = k
    · subst hmk
      simp only [ho, Option.bind_some, hod]
      rw [put_getD _ _ _ _ (by rw [putAll_size]; exact hd), if_pos rfl]
    · rw [← ih (by omega) (fun j o' hj ho' hne => h j o' (by omega) ho' hne)]
      cases hk : (l[k]?).bind (·.dst) with
      | none => rfl
      | some d' =>
        obtain ⟨o', ho', hd'⟩ := Option.bind_eq_some_iff.1 hk
        rw [put_getD _ _ _ _ (by rw [putAll_size]; exact hd), if_neg (fun e => h k o' (by omega) ho' hmk (by rw [hd', e]))]

theorem getD_ext {x y : Array Value} (hs : x.size = y.size) (h : ∀ t, t < y.size → x.getD t undef = y.getD t undef) : x = y := by
  apply Array.ext hs
  intro i h1 h2
  have := h i h2
  simpa [h1, h2] using this

/-- The closed facts on a region, in one Bool. -/
def rgB (ops : Array Oper) (n N : Nat) : Bool :=
  edgesB ops && dstsB ops n N && Region.sinkB .any ops n && Region.chainB .any ops n && decide (n < ops.size) && Region.seqB .any ops (ops.size - n) n ((List.replicate n true ++ List.replicate (ops.size - n) false).toArray)

theorem wp_region_rg {id : Nat} {Q : Exit → Act → World → Prop} {a : Act} {w : World} {l : List Oper} (n : Nat) (Post : Nat → Value → World → Prop)
    (stable : ∀ i v w w', Post i v w → Below w.heap.size w w' → Post i v w') (hm : P.follows .mixedOrders = true) (hB : rgB l.toArray n a.tmps.size = true)
    (hop : ∀ i o a1 w1, i < n → l[i]? = some o → a1.tmps.size = a.tmps.size → Below w.heap.size w.drew w1 →
      (∀ t, (∀ i o, i < n → l[i]? = some o → o.dst ≠ some t) → a1.tmps.getD t undef = a.tmps.getD t undef) →
      (∀ e ∈ o.after, Region.binds .any e = true → ∀ oj d, l[e.on]? = some oj → oj.dst = some d → Post e.on (a1.tmps.getD d undef) w1) →
      o.wp P a1 w1 (fun a' w' => ∃ v, a' = a1.put o.dst v ∧ Post i v w' ∧ Below w1.heap.size w1 w') Q)
    (hend : ∀ vs w', Below w.heap.size w.drew w' → (∀ i, i < n → Post i (vs i) w') → wpList P l.toArray Q (l.drop n) (putAll l a vs n) w') :
    (Code.region id l.toArray true).wp P Q a w := by
  simp only [rgB, Bool.and_eq_true, decide_eq_true_eq] at hB
  obtain ⟨⟨⟨⟨⟨he, hd⟩, hs⟩, hc⟩, hn⟩, hq⟩ := hB
  have hn' : n < l.length := by simpa using hn
  have hdl : (l.drop n).length = l.toArray.size - n := by simp
  have inv0 : HeadInv .any l.toArray n (Array.replicate l.toArray.size false) :=
    ⟨by simp, fun j oj _ hl => (by rw [getD_replicate_false] at hl; cases hl), fun t _ h' => getD_in (by simpa using h') (getD_replicate_false _ _)⟩
  refine wp_region_any hm ?_
  have H := rg_any (P := P) (ops := l.toArray) (n := n) Post stable a w.drew (Q := Q) (g := l.toArray.size - n) he hd hs hc hn
    (fun i o a1 w1 hi ho hsz hb hf hp => hop i o a1 w1 hi (by simpa using ho) hsz hb (fun t ht => hf t (fun i o hi ho => ht i o hi (by simpa using ho))) (fun e hem hbe oj dj hoj hdj => hp e hem hbe oj dj (by simpa using hoj) hdj))
    (fun listed a1 w1 hsz h1 h2 rg => ?_) n (Array.replicate l.toArray.size false) a w.drew inv0 ⟨rfl, rfl, fun _ _ => rfl, Below.refl _ _, fun i o d hi hl => (by rw [getD_replicate_false] at hl; cases hl)⟩ (by simp; omega)
  · rw [show n + (l.toArray.size - n) = l.toArray.size by omega] at H
    exact H
  · have hlisted : listed = (List.replicate n true ++ List.replicate (l.toArray.size - n) false).toArray := by
      apply Array.ext
      · simp [hsz]; omega
      · intro i hi1 hi2
        by_cases hin : i < n
        · have := h1 i hin
          simp only [Array.getD_eq_getD_getElem?, Array.getElem?_eq_getElem hi1, Option.getD_some] at this
          rw [this]
          simp [List.getElem_append, hin]
        · have := h2 i (by omega) (by omega)
          simp only [Array.getD_eq_getD_getElem?, Array.getElem?_eq_getElem hi1, Option.getD_some] at this
          rw [this]
          simp [List.getElem_append, hin]
    let vs : Nat → Value := fun i => match (l[i]?).bind (·.dst) with | some d => a1.tmps.getD d undef | none => undef
    have hvs : ∀ i o d, l[i]? = some o → o.dst = some d → vs i = a1.tmps.getD d undef := fun i o d ho hd' => by simp only [vs, ho, Option.bind_some, hd']
    have ha1 : a1 = putAll l a vs n := by
      have ht : a1.tmps = (putAll l a vs n).tmps := by
        refine getD_ext (by rw [putAll_size, rg.size]) fun t ht => ?_
        rw [putAll_size] at ht
        by_cases hx : ∃ i o, i < n ∧ l[i]? = some o ∧ o.dst = some t
        · obtain ⟨i, o, hi, ho, hot⟩ := hx
          obtain ⟨o', d, ho', _, hd', _, hu⟩ := dstsB_spec hd hi
          obtain rfl : o = o' := Option.some.inj (ho.symm.trans (by simpa using ho'))
          obtain rfl : t = d := Option.some.inj (hot.symm.trans hd')
          rw [putAll_at l a vs i t ht o ho hot n hi (fun j o' hj ho' hne => hu j o' hj (by simpa using ho') hne), hvs i o t ho hot]
        · have hno : ∀ i o, i < n → l[i]? = some o → o.dst ≠ some t := fun i o hi ho hot => hx ⟨i, o, hi, ho, hot⟩
          rw [putAll_other l a vs t ht n hno]
          exact rg.frame t (fun i o hi ho => hno i o hi (by simpa using ho))
      have hdf : a1.defers = (putAll l a vs n).defers := by rw [putAll_defers, rg.defers]
      cases a1
      cases hp : putAll l a vs n
      rw [hp] at ht hdf
      simp only at ht hdf
      rw [ht, hdf]
    have hfin := hend vs w1 rg.below (fun i hi => by
      obtain ⟨o, d, ho, _, hd', _, _⟩ := dstsB_spec hd hi
      rw [hvs i o d (by simpa using ho) hd']
      exact rg.post i o d hi (getD_both' (h1 i hi) (by omega)) ho hd')
    rw [← ha1] at hfin
    have := wpAny_of_seq (md := .any) (Q' := Q) (l.drop n) n listed a1 w1 (fun j => by simp [List.getElem?_drop]) (by rw [hdl, hlisted]; exact hq) hfin
    rwa [hdl] at this

/-- No operation of the head writes temporary t. -/
def keepsB (l : List Oper) (n t : Nat) : Bool := (List.range n).all fun i => match l[i]? with | some o => o.dst != some t | none => true
/-- o waits for operation j. -/
def waitsB (o : Oper) (j : Nat) : Bool := o.after.any fun e => Region.binds .any e && e.on == j

/-- What operation i of the head owes, in whatever frame and world of the region it comes up. -/
def Owes (P : Program) (Q : Exit → Act → World → Prop) (l : List Oper) (n : Nat) (Post : Nat → Value → World → Prop) (a : Act) (w : World) (i : Nat) : Prop :=
  ∀ o a1 w1, l[i]? = some o → Below w.heap.size w.drew w1 → (∀ t, keepsB l n t = true → a1.tmps.getD t undef = a.tmps.getD t undef) →
    (∀ j d, waitsB o j = true → (l[j]?).bind (·.dst) = some d → Post j (a1.tmps.getD d undef) w1) →
    o.wp P a1 w1 (fun a' w' => ∃ v, a' = a1.put o.dst v ∧ Post i v w' ∧ Below w1.heap.size w1 w') Q

theorem wp_region_rg' {id : Nat} {Q : Exit → Act → World → Prop} {a : Act} {w : World} {l : List Oper} (n : Nat) (Post : Nat → Value → World → Prop)
    (hm : P.follows .mixedOrders = true) (hB : rgB l.toArray n a.tmps.size = true)
    (stable : ∀ i v w w', Post i v w → Below w.heap.size w w' → Post i v w')
    (hop : ∀ i, i < n → Owes P Q l n Post a w i)
    (hend : ∀ vs w', Below w.heap.size w.drew w' → (∀ i, i < n → Post i (vs i) w') → wpList P l.toArray Q (l.drop n) (putAll l a vs n) w') :
    (Code.region id l.toArray true).wp P Q a w := by
  refine wp_region_rg n Post stable hm hB (fun i o a1 w1 hi ho _ hb hf hp => hop i hi o a1 w1 ho hb (fun t ht => hf t fun i o hi ho => ?_) fun j d hj hd => ?_) hend
  · have h1 := List.all_eq_true.1 ht i (List.mem_range.2 hi)
    simpa [ho] using h1
  · obtain ⟨e, he, hb⟩ := Array.any_eq_true'.1 hj
    simp only [Bool.and_eq_true, beq_iff_eq] at hb
    obtain ⟨oj, hoj, hdj⟩ := Option.bind_eq_some_iff.1 hd
    have := hp e he hb.1 oj d (by rw [hb.2]; exact hoj) hdj
    rwa [hb.2] at this

theorem owes_value {Q : Exit → Act → World → Prop} {o : Oper} {a : Act} {w w' : World} {v : Value} {R : Value → World → Prop} (h : (execOp a.eval o).run P w = .ok (.value v) w') (hR : R v w') (hb : Below w.heap.size w w') :
    o.wp P a w (fun a' w' => ∃ v, a' = a.put o.dst v ∧ R v w' ∧ Below w.heap.size w w') Q := by
  unfold Oper.wp
  rw [h]
  exact ⟨v, rfl, hR, hb⟩
theorem owes_call {Q : Exit → Act → World → Prop} {o : Oper} {a : Act} {w : World} {f : FuncId} {args : Array Value} {R : Value → World → Prop} (h : (execOp a.eval o).run P w = .ok (.enter f args) w)
    (hc : Calls P f args w fun e w' => ∃ v, e = .returned v ∧ R v w' ∧ Below w.heap.size w w') :
    o.wp P a w (fun a' w' => ∃ v, a' = a.put o.dst v ∧ R v w' ∧ Below w.heap.size w w') Q := by
  unfold Oper.wp
  rw [h]
  refine hc.mono ?_
  rintro e w' ⟨v, rfl, hR, hb⟩
  exact ⟨v, rfl, hR, hb⟩
end
end Go.Own
