/- A region that draws its order, whose head makes memory and calls: each operation of the head leaves what it says of its value, in whatever order they come; then a tail in one forced order. -/
import Derived.Test.YtbmnbdkbgpajeaaGreatDoorZe00
import Derived.Laws.AppendOwnNone
import Derived.Lib.AppendStr
import Derived.Lib.ConvBytes
import Derived.Laws.BytesArg
/- A region that draws its order, whose head makes memory and calls: each operation of the head leaves what it says of its value, in whatever order they come; then a tail in one forced order. -/
section
namespace Go.Own
open Go.RowKit

theorem count_set_true : ∀ (l : List Bool) (i : Nat), l[i]? = some false → (l.set i true).count false + 1 = l.count false
  | [], i, h => by simp at h
  | b :: l, 0, h => by simp at h; subst h; simp
  | b :: l, i + 1, h => by
    have := count_set_true l i (by simpa using h)
    cases b <;> simp [← this]

/-- Every edge leads to an operation before. -/
def edgesB (ops : Array Oper) : Bool := (List.range ops.size).all fun i => match ops[i]? with | some o => o.after.all fun e => !Region.binds .any e || decide (e.on < i) | none => true
/-- The temporaries that the first n operations write: each by one alone, and no guard stands. -/
def dstsB (ops : Array Oper) (n N : Nat) : Bool := (List.range n).all fun i => match ops[i]? with
  | some o => o.guard.isNone && (match o.dst with | some d => decide (d < N) | none => false) && (List.range n).all fun j => i == j || (match ops[j]? with | some o' => o'.dst != o.dst | none => true)
  | none => false

/-- The frame with the values of the first n operations in their temporaries. -/
def putAll (ops : List Oper) (a : Act) (vs : Nat → Value) : Nat → Act
  | 0 => a
  | k + 1 => (putAll ops a vs k).put ((ops[k]?).bind (·.dst)) (vs k)

theorem getD_both' {listed : Array Bool} {i : Nat} (h : listed.getD i true = true) (hi : i < listed.size) : listed.getD i false = true := by
  simpa [hi] using h

section
variable {P : Program} {ops : Array Oper} {n : Nat}

theorem put_getD (a : Act) (d : Tmp) (v : Value) (t : Nat) (ht : t < a.tmps.size) : (a.put (some d) v).tmps.getD t undef = if d = t then v else a.tmps.getD t undef := by
  simp only [Act.put, Array.getD_eq_getD_getElem?, Array.getElem?_setIfInBounds]
  by_cases h : d = t
  · subst h; simp [ht]
  · simp [h]
theorem put_size (a : Act) (d : Option Tmp) (v : Value) : (a.put d v).tmps.size = a.tmps.size := by cases d <;> simp [Act.put]
theorem put_defers (a : Act) (d : Option Tmp) (v : Value) : (a.put d v).defers = a.defers := by cases d <;> rfl
theorem putAll_size (l : List Oper) (a : Act) (vs : Nat → Value) (k : Nat) : (putAll l a vs k).tmps.size = a.tmps.size := by
  induction k with
  | zero => rfl
  | succ k ih => rw [putAll, put_size, ih]
theorem putAll_defers (l : List Oper) (a : Act) (vs : Nat → Value) (k : Nat) : (putAll l a vs k).defers = a.defers := by
  induction k with
  | zero => rfl
  | succ k ih => rw [putAll, put_defers, ih]

structure RgInv (ops : Array Oper) (n : Nat) (Post : Nat → Value → World → Prop) (a0 : Act) (w0 : World) (listed : Array Bool) (a : Act) (w : World) : Prop where
  size : a.tmps.size = a0.tmps.size
  defers : a.defers = a0.defers
  frame : ∀ t, (∀ i o, i < n → ops[i]? = some o → o.dst ≠ some t) → a.tmps.getD t undef = a0.tmps.getD t undef
  below : Below w0.heap.size w0 w
  post : ∀ i o d, i < n → listed.getD i false = true → ops[i]? = some o → o.dst = some d → Post i (a.tmps.getD d undef) w

theorem dstsB_spec {N : Nat} (h : dstsB ops n N = true) {i : Nat} (hi : i < n) : ∃ o d, ops[i]? = some o ∧ o.guard = none ∧ o.dst = some d ∧ d < N ∧ ∀ j o', j < n → ops[j]? = some o' → i ≠ j → o'.dst ≠ some d := by
  have h1 := List.all_eq_true.1 h i (List.mem_range.2 hi)
  cases ho : ops[i]? with
  | none => simp [ho] at h1
  | some o =>
    simp only [ho, Bool.and_eq_true, Option.isNone_iff_eq_none] at h1
    obtain ⟨⟨hg, hd'⟩, hall⟩ := h1
    obtain ⟨d, hd⟩ : ∃ d, o.dst = some d := by cases h : o.dst with
      | none => rw [h] at hd'; cases hd'
      | some d => exact ⟨d, rfl⟩
    have hdN : d < N := by rw [hd] at hd'; simpa using hd'
    refine ⟨o, d, rfl, hg, hd, hdN, fun j o' hj ho' hne => ?_⟩
    have h2 := List.all_eq_true.1 hall j (List.mem_range.2 hj)
    simp only [ho', Bool.or_eq_true, beq_iff_eq, hne, false_or, bne_iff_ne, ne_eq, hd] at h2
    exact h2

theorem edgesB_spec (h : edgesB ops = true) {i : Nat} {o : Oper} (ho : ops[i]? = some o) : ∀ e ∈ o.after, Region.binds .any e = true → e.on < i := by
  have hi := (Array.getElem?_eq_some_iff.1 ho).1
  have h1 := List.all_eq_true.1 h i (List.mem_range.2 hi)
  simp only [ho] at h1
  intro e he hb
  have h2 := Array.all_eq_true_iff_forall_mem.1 h1 e he
  rw [hb] at h2
  simpa using h2

/-- The least operation that has not come up is ready. -/
theorem ready_least (he : edgesB ops = true) {listed : Array Bool} (hs : listed.size = ops.size) {i : Nat} (hi : i < ops.size) (hun : listed.getD i true = false) (hl : ∀ j, j < i → listed.getD j true = true) : i ∈ Region.ready .any ops listed := by
  rw [mem_ready]
  have ho : ops[i]? = some ops[i] := by simp [hi]
  refine ⟨hun, _, ho, fun e hem hb => ?_⟩
  have h1 := edgesB_spec he ho e hem hb
  have h2 := hl _ h1
  have h3 : e.on < listed.size := by omega
  simpa [h3] using h2

theorem rg_any (Post : Nat → Value → World → Prop) (stable : ∀ i v w w', Post i v w → Below w.heap.size w w' → Post i v w') (a0 : Act) (w0 : World) {Q : Exit → Act → World → Prop} {g : Nat}
    (he : edgesB ops = true) (hd : dstsB ops n a0.tmps.size = true) (hs : Region.sinkB .any ops n = true) (hc : Region.chainB .any ops n = true) (hn : n < ops.size)
    (hop : ∀ i o a w, i < n → ops[i]? = some o → a.tmps.size = a0.tmps.size → Below w0.heap.size w0 w →
      (∀ t, (∀ i o, i < n → ops[i]? = some o → o.dst ≠ some t) → a.tmps.getD t undef = a0.tmps.getD t undef) →
      (∀ e ∈ o.after, Region.binds .any e = true → ∀ oj d, ops[e.on]? = some oj → oj.dst = some d → Post e.on (a.tmps.getD d undef) w) →
      o.wp P a w (fun a' w' => ∃ v, a' = a.put o.dst v ∧ Post i v w' ∧ Below w.heap.size w w') Q)
    (hend : ∀ listed a w, listed.size = ops.size → (∀ i, i < n → listed.getD i true = true) → (∀ t, n ≤ t → t < ops.size → listed.getD t true = false) →
      RgInv ops n Post a0 w0 listed a w → wpAny P .any ops Q g listed a w) (f : Nat) :
    ∀ (listed : Array Bool) (a : Act) (w : World), HeadInv .any ops n listed → RgInv ops n Post a0 w0 listed a w → ((listed.toList.take n).count false = f) → wpAny P .any ops Q (f + g) listed a w := by
  induction f with
  | zero =>
    intro listed a w inv rg hf
    rw [Nat.zero_add]
    refine hend listed a w inv.size (fun i hi => ?_) inv.tail rg
    have hlt : i < listed.size := by rw [inv.size]; omega
    have h0 := List.count_eq_zero.1 hf
    have h1 : listed[i] ∈ listed.toList.take n := by
      rw [List.mem_take_iff_getElem]
      exact ⟨i, by simp; omega, by simp⟩
    cases hb : listed[i] with
    | true => simp [hlt, hb]
    | false => rw [hb] at h1; exact absurd h1 h0
  | succ f ih =>
    intro listed a w inv rg hf
    have hex : ∃ i, i < n ∧ listed.getD i true = false := by
      have : false ∈ listed.toList.take n := List.count_pos_iff.1 (by omega)
      rw [List.mem_take_iff_getElem] at this
      obtain ⟨i, hi, hb⟩ := this
      simp only [Array.length_toList] at hi
      exact ⟨i, by omega, by simp [show i < listed.size by omega]; simpa using hb⟩
    obtain ⟨i0, hi0, hun0⟩ := hex
    have hne : Region.ready .any ops listed ≠ [] := by
      -- the least one
      have key : ∀ m, m < n → listed.getD m true = false → ∃ k, k ≤ m ∧ listed.getD k true = false ∧ ∀ j, j < k → listed.getD j true = true := by
        intro m
        induction m using Nat.strongRecOn with
        | _ m ihm =>
          intro hm hu
          by_cases hx : ∃ j, j < m ∧ listed.getD j true = false
          · obtain ⟨j, hj, hju⟩ := hx
            obtain ⟨k, hk, h⟩ := ihm j hj (by omega) hju
            exact ⟨k, by omega, h⟩
          · exact ⟨m, Nat.le_refl _, hu, fun j hj => by
              cases hb : listed.getD j true with
              | true => rfl
              | false => exact absurd ⟨j, hj, hb⟩ hx⟩
      obtain ⟨k, hk, hu, hl⟩ := key i0 hi0 hun0
      exact List.ne_nil_of_mem (ready_least he inv.size (by omega) hu hl)
    rw [Nat.add_right_comm]
    refine ⟨fun h0 => absurd h0 hne, fun i hi => ?_⟩
    have hin : i < n := (Nat.lt_or_ge i n).resolve_right fun h => absurd hi (tail_waits hs hc hn inv _ i0 rfl hi0 hun0 i h)
    obtain ⟨o, d, ho, hg, hdst, hdN, huniq⟩ := dstsB_spec hd hin
    obtain ⟨hun, o', ho', hall⟩ := mem_ready.1 hi
    obtain rfl : o = o' := Option.some.inj (ho.symm.trans ho')
    have hlt : i < listed.size := by rw [inv.size]; omega
    have hw := hop i o a w hin ho rg.size rg.below rg.frame (fun e hem hb oj dj hoj hdj => rg.post e.on oj dj (by have := edgesB_spec he ho e hem hb; omega) (hall e hem hb) hoj hdj)
    unfold wpOp
    simp only [ho]
    rw [if_pos (by simp [Region.wanted, hg])]
    refine .inl (Oper.wp_mono ?_ hw)
    rintro a' w' ⟨v, rfl, hpost, hbelow⟩
    refine ih _ _ _ (inv.set hi hin) ⟨?_, ?_, ?_, ?_, ?_⟩ ?_
    · rw [put_size]; exact rg.size
    · rw [put_defers]; exact rg.defers
    · intro t ht
      rw [← rg.frame t ht, hdst]
      by_cases htl : t < a.tmps.size
      · rw [put_getD _ _ _ _ htl, if_neg (fun h => ht i o hin ho (by rw [hdst, h]))]
      · simp [Act.put, Array.getElem?_eq_none (Nat.le_of_not_lt htl), show ¬ t < a.tmps.size from htl]
    · exact rg.below.trans (hbelow.mono rg.below.size)
    · intro k ok dk hk hl hok hdk
      by_cases hki : k = i
      · subst hki
        obtain rfl : ok = o := Option.some.inj (hok.symm.trans ho)
        obtain rfl : dk = d := Option.some.inj (hdk.symm.trans hdst)
        rw [hdst]
        rw [put_getD _ _ _ _ (by rw [rg.size]; exact hdN), if_pos rfl]; exact hpost
      · have hne : dk ≠ d := fun h => huniq k ok hk hok (Ne.symm hki) (by rw [hdk, h])
        have hl' : listed.getD k false = true := by
          rw [getD_set_ne false (Ne.symm hki)] at hl; exact hl
        have h1 := stable _ _ _ _ (rg.post k ok dk hk hl' hok hdk) hbelow
        rw [hdst]
        by_cases htl : dk < a.tmps.size
        · rw [put_getD _ _ _ _ htl, if_neg (Ne.symm hne)]; exact h1
        · simpa [Act.put, Array.getElem?_eq_none (Nat.le_of_not_lt htl), show ¬ dk < a.tmps.size from htl] using h1
    · have h1 : (listed.toList.take n)[i]? = some false := by
        rw [List.getElem?_take_of_lt hin]
        simp only [Array.getElem?_toList]
        simp [hlt] at hun ⊢
        exact hun
      have h2 := count_set_true _ _ h1
      rw [Array.toList_setIfInBounds, List.take_set]
      omega

theorem putAll_other (l : List Oper) (a0 : Act) (vs : Nat → Value) (t : Nat) (ht : t < a0.tmps.size) : ∀ k, (∀ i o, i < k → l[i]? = some o → o.dst ≠ some t) → (putAll l a0 vs k).tmps.getD t undef = a0.tmps.getD t undef := by
  intro k
  induction k with
  | zero => intro _; rfl
  | succ k ih =>
    intro h
    rw [putAll, ← ih (fun i o hi ho => h i o (by omega) ho)]
    cases hk : (l[k]?).bind (·.dst) with
    | none => rfl
    | some d =>
      obtain ⟨o, ho, hd⟩ := Option.bind_eq_some_iff.1 hk
      rw [put_getD _ _ _ _ (by rw [putAll_size]; exact ht), if_neg (fun e => h k o (by omega) ho (by rw [hd, e]))]

theorem putAll_at (l : List Oper) (a0 : Act) (vs : Nat → Value) (m : Nat) (d : Tmp) (hd : d < a0.tmps.size) (o : Oper) (ho : l[m]? = some o) (hod : o.dst = some d) :
    ∀ k, m < k → (∀ j o', j < k → l[j]? = some o' → m ≠ j → o'.dst ≠ some d) → (putAll l a0 vs k).tmps.getD d undef = vs m := by
  intro k
  induction k with
  | zero => intro h; omega
  | succ k ih =>
    intro hm h
    rw [putAll]
    by_cases hmk : m = k
    · subst hmk
      simp only [ho, Option.bind_some, hod]
      rw [put_getD _ _ _ _ (by rw [putAll_size]; exact hd), if_pos rfl]
    · rw [← ih (by omega) (fun j o' hj ho' hne => h j o' (by omega) ho' hne)]
      cases hk : (l[k]?).bind (·.dst) with
      | none => rfl
      | some d' =>
        obtain ⟨o', ho', hd'⟩ := Option.bind_eq_some_iff.1 hk
        rw [put_getD _ _ _ _ (by rw [putAll_size]; exact hd), if_neg (fun e => h k o' (by omega) ho' hmk (by rw [hd', e]))]

theorem getD_ext {x y : Array Value} (hs : x.size = y.size) (h : ∀ t, t < y.size → x.getD t undef = y.getD t undef) : x = y := by
  apply Array.ext hs
  intro i h1 h2
  have := h i h2
  simpa [h1, h2] using this

/-- The closed facts on a region, in one Bool. -/
def rgB (ops : Array Oper) (n N : Nat) : Bool :=
  edgesB ops && dstsB ops n N && Region.sinkB .any ops n && Region.chainB .any ops n && decide (n < ops.size) && Region.seqB .any ops (ops.size - n) n ((List.replicate n true ++ List.replicate (ops.size - n) false).toArray)

theorem wp_region_rg {id : Nat} {Q : Exit → Act → World → Prop} {a : Act} {w : World} {l : List Oper} (n : Nat) (Post : Nat → Value → World → Prop)
    (stable : ∀ i v w w', Post i v w → Below w.heap.size w w' → Post i v w') (hm : P.follows .mixedOrders = true) (hB : rgB l.toArray n a.tmps.size = true)
    (hop : ∀ i o a1 w1, i < n → l[i]? = some o → a1.tmps.size = a.tmps.size → Below w.heap.size w.drew w1 →
      (∀ t, (∀ i o, i < n → l[i]? = some o → o.dst ≠ some t) → a1.tmps.getD t undef = a.tmps.getD t undef) →
      (∀ e ∈ o.after, Region.binds .any e = true → ∀ oj d, l[e.on]? = some oj → oj.dst = some d → Post e.on (a1.tmps.getD d undef) w1) →
      o.wp P a1 w1 (fun a' w' => ∃ v, a' = a1.put o.dst v ∧ Post i v w' ∧ Below w1.heap.size w1 w') Q)
    (hend : ∀ vs w', Below w.heap.size w.drew w' → (∀ i, i < n → Post i (vs i) w') → wpList P l.toArray Q (l.drop n) (putAll l a vs n) w') :
    (Code.region id l.toArray true).wp P Q a w := by
  simp only [rgB, Bool.and_eq_true, decide_eq_true_eq] at hB
  obtain ⟨⟨⟨⟨⟨he, hd⟩, hs⟩, hc⟩, hn⟩, hq⟩ := hB
  have hn' : n < l.length := by simpa using hn
  have hdl : (l.drop n).length = l.toArray.size - n := by simp
  have inv0 : HeadInv .any l.toArray n (Array.replicate l.toArray.size false) :=
    ⟨by simp, fun j oj _ hl => (by rw [getD_replicate_false] at hl; cases hl), fun t _ h' => getD_in (by simpa using h') (getD_replicate_false _ _)⟩
  refine wp_region_any hm ?_
  have H := rg_any (P := P) (ops := l.toArray) (n := n) Post stable a w.drew (Q := Q) (g := l.toArray.size - n) he hd hs hc hn
    (fun i o a1 w1 hi ho hsz hb hf hp => hop i o a1 w1 hi (by simpa using ho) hsz hb (fun t ht => hf t (fun i o hi ho => ht i o hi (by simpa using ho))) (fun e hem hbe oj dj hoj hdj => hp e hem hbe oj dj (by simpa using hoj) hdj))
    (fun listed a1 w1 hsz h1 h2 rg => ?_) n (Array.replicate l.toArray.size false) a w.drew inv0 ⟨rfl, rfl, fun _ _ => rfl, Below.refl _ _, fun i o d hi hl => (by rw [getD_replicate_false] at hl; cases hl)⟩ (by simp; omega)
  · rw [show n + (l.toArray.size - n) = l.toArray.size by omega] at H
    exact H
  · have hlisted : listed = (List.replicate n true ++ List.replicate (l.toArray.size - n) false).toArray := by
      apply Array.ext
      · simp [hsz]; omega
      · intro i hi1 hi2
        by_cases hin : i < n
        · have := h1 i hin
          simp only [Array.getD_eq_getD_getElem?, Array.getElem?_eq_getElem hi1, Option.getD_some] at this
          rw [this]
          simp [List.getElem_append, hin]
        · have := h2 i (by omega) (by omega)
          simp only [Array.getD_eq_getD_getElem?, Array.getElem?_eq_getElem hi1, Option.getD_some] at this
          rw [this]
          simp [List.getElem_append, hin]
    let vs : Nat → Value := fun i => match (l[i]?).bind (·.dst) with | some d => a1.tmps.getD d undef | none => undef
    have hvs : ∀ i o d, l[i]? = some o → o.dst = some d → vs i = a1.tmps.getD d undef := fun i o d ho hd' => by simp only [vs, ho, Option.bind_some, hd']
    have ha1 : a1 = putAll l a vs n := by
      have ht : a1.tmps = (putAll l a vs n).tmps := by
        refine getD_ext (by rw [putAll_size, rg.size]) fun t ht => ?_
        rw [putAll_size] at ht
        by_cases hx : ∃ i o, i < n ∧ l[i]? = some o ∧ o.dst = some t
        · obtain ⟨i, o, hi, ho, hot⟩ := hx
          obtain ⟨o', d, ho', _, hd', _, hu⟩ := dstsB_spec hd hi
          obtain rfl : o = o' := Option.some.inj (ho.symm.trans (by simpa using ho'))
          obtain rfl : t = d := Option.some.inj (hot.symm.trans hd')
          rw [putAll_at l a vs i t ht o ho hot n hi (fun j o' hj ho' hne => hu j o' hj (by simpa using ho') hne), hvs i o t ho hot]
        · have hno : ∀ i o, i < n → l[i]? = some o → o.dst ≠ some t := fun i o hi ho hot => hx ⟨i, o, hi, ho, hot⟩
          rw [putAll_other l a vs t ht n hno]
          exact rg.frame t (fun i o hi ho => hno i o hi (by simpa using ho))
      have hdf : a1.defers = (putAll l a vs n).defers := by rw [putAll_defers, rg.defers]
      cases a1
      cases hp : putAll l a vs n
      rw [hp] at ht hdf
      simp only at ht hdf
      rw [ht, hdf]
    have hfin := hend vs w1 rg.below (fun i hi => by
      obtain ⟨o, d, ho, _, hd', _, _⟩ := dstsB_spec hd hi
      rw [hvs i o d (by simpa using ho) hd']
      exact rg.post i o d hi (getD_both' (h1 i hi) (by omega)) ho hd')
    rw [← ha1] at hfin
    have := wpAny_of_seq (md := .any) (Q' := Q) (l.drop n) n listed a1 w1 (fun j => by simp [List.getElem?_drop]) (by rw [hdl, hlisted]; exact hq) hfin
    rwa [hdl] at this

/-- No operation of the head writes temporary t. -/
def keepsB (l : List Oper) (n t : Nat) : Bool := (List.range n).all fun i => match l[i]? with | some o => o.dst != some t | none => true
/-- o waits for operation j. -/
def waitsB (o : Oper) (j : Nat) : Bool := o.after.any fun e => Region.binds .any e && e.on == j

/-- What operation i of the head owes, in whatever frame and world of the region it comes up. -/
def Owes (P : Program) (Q : Exit → Act → World → Prop) (l : List Oper) (n : Nat) (Post : Nat → Value → World → Prop) (a : Act) (w : World) (i : Nat) : Prop :=
  ∀ o a1 w1, l[i]? = some o → Below w.heap.size w.drew w1 → (∀ t, keepsB l n t = true → a1.tmps.getD t undef = a.tmps.getD t undef) →
    (∀ j d, waitsB o j = true → (l[j]?).bind (·.dst) = some d → Post j (a1.tmps.getD d undef) w1) →
    o.wp P a1 w1 (fun a' w' => ∃ v, a' = a1.put o.dst v ∧ Post i v w' ∧ Below w1.heap.size w1 w') Q

theorem wp_region_rg' {id : Nat} {Q : Exit → Act → World → Prop} {a : Act} {w : World} {l : List Oper} (n : Nat) (Post : Nat → Value → World → Prop)
    (hm : P.follows .mixedOrders = true) (hB : rgB l.toArray n a.tmps.size = true)
    (stable : ∀ i v w w', Post i v w → Below w.heap.size w w' → Post i v w')
    (hop : ∀ i, i < n → Owes P Q l n Post a w i)
    (hend : ∀ vs w', Below w.heap.size w.drew w' → (∀ i, i < n → Post i (vs i) w') → wpList P l.toArray Q (l.drop n) (putAll l a vs n) w') :
    (Code.region id l.toArray true).wp P Q a w := by
  refine wp_region_rg n Post stable hm hB (fun i o a1 w1 hi ho _ hb hf hp => hop i hi o a1 w1 ho hb (fun t ht => hf t fun i o hi ho => ?_) fun j d hj hd => ?_) hend
  · have h1 := List.all_eq_true.1 ht i (List.mem_range.2 hi)
    simpa [ho] using h1
  · obtain ⟨e, he, hb⟩ := Array.any_eq_true'.1 hj
    simp only [Bool.and_eq_true, beq_iff_eq] at hb
    obtain ⟨oj, hoj, hdj⟩ := Option.bind_eq_some_iff.1 hd
    have := hp e he hb.1 oj d (by rw [hb.2]; exact hoj) hdj
    rwa [hb.2] at this

theorem owes_value {Q : Exit → Act → World → Prop} {o : Oper} {a : Act} {w w' : World} {v : Value} {R : Value → World → Prop} (h : (execOp a.eval o).run P w = .ok (.value v) w') (hR : R v w') (hb : Below w.heap.size w w') :
    o.wp P a w (fun a' w' => ∃ v, a' = a.put o.dst v ∧ R v w' ∧ Below w.heap.size w w') Q := by
  unfold Oper.wp
  rw [h]
  exact ⟨v, rfl, hR, hb⟩
theorem owes_call {Q : Exit → Act → World → Prop} {o : Oper} {a : Act} {w : World} {f : FuncId} {args : Array Value} {R : Value → World → Prop} (h : (execOp a.eval o).run P w = .ok (.enter f args) w)
    (hc : Calls P f args w fun e w' => ∃ v, e = .returned v ∧ R v w' ∧ Below w.heap.size w w') :
    o.wp P a w (fun a' w' => ∃ v, a' = a.put o.dst v ∧ R v w' ∧ Below w.heap.size w w') Q := by
  unfold Oper.wp
  rw [h]
  refine hc.mono ?_
  rintro e w' ⟨v, rfl, hR, hb⟩
  exact ⟨v, rfl, hR, hb⟩
end
end Go.Own
end
/- Slices that are read, slices that the call owns, strings as lists of bytes: laws for the walk. -/
section
namespace Go.Own
open Go.RowKit Go.Lib

/-- A slice value of n elements, size cells each, that reads as these cells. -/
def Sl (w : World) (size : Nat) (v : Value) (n : Nat) (vs : List Value) : Prop :=
  vs.length = n * size ∧ ((v = .slice none 0 0 ∧ n = 0) ∨ ∃ b off cap, v = .slice (some ⟨b, off, none⟩) n cap ∧ n ≤ cap ∧ cap ≤ maxLen ∧ Cells w b off vs ∧ b < w.heap.size)

theorem Sl.below {w w' : World} {size n : Nat} {v : Value} {vs : List Value} (h : Sl w size v n vs) (hb : Below w.heap.size w w') : Sl w' size v n vs := by
  obtain ⟨h1, h2 | ⟨b, off, cap, h3, h4, h5, h6, h7⟩⟩ := h
  · exact ⟨h1, .inl h2⟩
  · exact ⟨h1, .inr ⟨b, off, cap, h3, h4, h5, h6.below hb h7, Nat.lt_of_lt_of_le h7 hb.size⟩⟩
theorem Sl.drewN {w : World} {size n : Nat} {v : Value} {vs : List Value} (h : Sl w size v n vs) (k : Nat) : Sl (w.drewN k) size v n vs := h
theorem Sl.drew {w : World} {size n : Nat} {v : Value} {vs : List Value} (h : Sl w size v n vs) : Sl w.drew size v n vs := h

theorem Sl.of_owns {w : World} {base size n : Nat} {e : TypeId} {v : Value} {xs : List Value} (h : w.ownsRow base e size v n xs) : Sl w size v n xs := by
  obtain ⟨h1, ⟨h2, h3⟩ | ⟨g, cap, cur, h2, h3, h4, h5, h6, h7, h8⟩⟩ := h
  · exact ⟨h1, .inl ⟨h2, h3⟩⟩
  · have hg : g < w.heap.size := by
      rcases Nat.lt_or_ge g w.heap.size with h' | h'
      · exact h'
      · rw [Array.getElem?_eq_none h'] at h4; cases h4
    refine ⟨h1, .inr ⟨g, 0, cap, h2, h5, h6, fun i u hi => ?_, hg⟩⟩
    rw [Nat.zero_add, cell_of_row w g i cur e (0, 0) h4]
    have hlt : i < n * size := by have := (List.getElem?_eq_some_iff.1 hi).1; omega
    rw [← h8, List.getElem?_take_of_lt hlt] at hi
    simpa using hi

/-- 'append(s, x...)', s the call's own, x any slice that reads: nil, empty or not. -/
theorem wpList_append_sl {P : Program} {w : World} {ops : Array Oper} {rest : List Oper} {o : Oper} {a : Act} {Q : Exit → Act → World → Prop} (hgd : o.guard = none) (s x : Operand) (t : TypeId)
    (ho : o.op = .call { callee := .builtin .append, args := #[s, x], argTypes := #[t, t] })
    (base : Nat) (e : TypeId) (z : Value) (size bytes : Nat) (ht : P.underlying t = some (.slice e)) (hi : (P.info? e).map (fun i => (i.zero, i.size, i.bytes)) = some (some z, size, bytes))
    (hzs : z.cells.size = size) (hsz : 0 < size)
    (v : Value) (n : Nat) (xs : List Value) (hs : a.eval s = v) (hown : w.ownsRow base e size v n xs)
    (v2 : Value) (m : Nat) (news : List Value) (hx : a.eval x = v2) (hsl : Sl w size v2 m news) (h1 : ∀ u ∈ news, u.oneCell' = true)
    (h63 : n + m ≤ maxLen) (hbytes : (n + m) * bytes ≤ 140737488355328) (hbase : base ≤ w.heap.size)
    (h : ∀ v' w', w'.ownsRow base e size v' (n + m) (xs ++ news) → w.grownBy w' v.ownBlock → wpList P ops Q rest (a.put o.dst v') w') : wpList P ops Q (o :: rest) a w := by
  obtain ⟨i, hi1, hi2, hi3, hi4⟩ := info_parts hi
  obtain ⟨hl, ⟨rfl, rfl⟩ | ⟨b, off, cap, rfl, hc1, hc2, hC, hlt⟩⟩ := hsl
  · obtain rfl : news = [] := List.eq_nil_of_length_eq_zero (by simpa using hl)
    refine wpList_append_own_none hgd s x t ho base e i size ht hi1 v n xs hs hown hx ?_
    exact h v w (by simpa using hown) (World.grownBy.refl _ _)
  · exact wpList_append_own _ hgd s x t ho base e i z size bytes ht hi1 hi2 hi3 hi4 hzs hsz v n xs hs hown ⟨b, off, none⟩ m cap news hx hl (fun j u hj => by rw [Addr.add_lit]; exact hC j u hj) h1 h63 hbytes hbase
      fun v' w' k1 k2 _ => h v' w' k1 k2

theorem Cells.grown {w w' : World} {g off : Nat} {vs : List Value} {row : Option Nat} (h : Cells w g off vs) (hg : w.grownBy w' row) (hlt : g < w.heap.size) (hne : some g ≠ row) : Cells w' g off vs :=
  fun i v hi => (World.cell?_of_block (w := w) (hg.block g hlt hne)).trans (h i v hi)
theorem Blk.grown {w w' : World} {g : Nat} {l : List Value} {t : TypeId} {row : Option Nat} (h : Blk w g l t) (hg : w.grownBy w' row) (hne : some g ≠ row) : Blk w' g l t := by
  unfold Blk; rw [hg.block g h.lt hne]; exact h
theorem Sl.grown {w w' : World} {size n : Nat} {v : Value} {vs : List Value} {row : Option Nat} (h : Sl w size v n vs) (hg : w.grownBy w' row) (hne : ∀ b, v.ownBlock = some b → some b ≠ row) : Sl w' size v n vs := by
  obtain ⟨h1, h2 | ⟨b, off, cap, rfl, h4, h5, h6, h7⟩⟩ := h
  · exact ⟨h1, .inl h2⟩
  · exact ⟨h1, .inr ⟨b, off, cap, rfl, h4, h5, h6.grown hg h7 (hne b rfl), Nat.lt_of_lt_of_le h7 hg.size⟩⟩
/-- What was there when the call began is there behind an append to a row of the call's own. -/
theorem grown_below {w0 w w' : World} {base size n : Nat} {e : TypeId} {v : Value} {xs : List Value} (hb : Below base w0 w) (hown : w.ownsRow base e size v n xs) (hg : w.grownBy w' v.ownBlock) (hbase : base ≤ w.heap.size) : Below base w0 w' :=
  hb.grown hg hbase fun k hk => (hown.lt k hk).1

/-- A string of bytes. -/
abbrev str (bs : List UInt8) : Value := .string ⟨bs.toArray⟩
abbrev byv (b : UInt8) : Value := .int .u8 (b.toNat : Int)

theorem bytes_oneCell (bs : List UInt8) : ∀ u ∈ bs.map byv, u.oneCell' = true := by
  intro u hu; obtain ⟨_, _, rfl⟩ := List.mem_map.1 hu; rfl

/-- 'string(b)'. -/
theorem run_bytes_str {P : Program} {w : World} {src dst e : TypeId} (hs : P.underlying src = some (.slice e)) (he : P.underlying e = some (.int .u8)) (hd : P.underlying dst = some .string)
    {v : Value} {bs : List UInt8} (hsl : Sl w 1 v bs.length (bs.map byv)) : (convert src dst v).run P w = .ok (str bs) w := by
  obtain ⟨_, ⟨rfl, h0⟩ | ⟨b, off, cap, rfl, _, _, hC, _⟩⟩ := hsl
  · obtain rfl : bs = [] := List.eq_nil_of_length_eq_zero h0
    rw [run_convert_bytes_nil w src e hs he 0 0 dst hd]; rfl
  · rw [run_convert_bytes_arg w src e hs he b off bs.length cap (bs.map fun b => (b.toNat : Int)) (by simp) (fun i hi => by
      have := hC i (byv bs[i]) (by simp [hi])
      rw [this]; simp [hi]) dst hd]
    simp only [strOfNums, List.map_map]
    congr 4
    rw [show ((fun n : Int => UInt8.ofNat n.toNat) ∘ fun b : UInt8 => (b.toNat : Int)) = id from by funext b; simp]
    simp

/-- '[]byte(s)': a new block, in a world in which what was there is there. -/
theorem run_str_bytes {P : Program} {w : World} {src dst e : TypeId} (hs : P.underlying src = some .string) (hd : P.underlying dst = some (.slice e)) (he : P.underlying e = some (.int .u8)) (bs : List UInt8) (hm : bs.length ≤ 140737488355328) :
    ∃ v w', (convert src dst (str bs)).run P w = .ok v w' ∧ Sl w' 1 v bs.length (bs.map byv) ∧ Below w.heap.size w w' ∧ ∀ b, v.ownBlock = some b → w.heap.size ≤ b := by
  have hsz : (⟨bs.toArray⟩ : ByteArray).size = bs.length := by simp [ByteArray.size]
  have hcap : bs.length ≤ grownCap w bs.length 0 e ∧ grownCap w bs.length 0 e ≤ maxLen := by
    unfold grownCap Question.cut maxLen
    have := Nat.mod_lt (w.tape w.drawn (.appendCap bs.length 0 e)) (show 2 ^ 63 - bs.length > 0 by omega)
    simp only []
    omega
  have hr := Go.Lib.run_convert_string_bytes (P := P) w src dst e ⟨bs.toArray⟩ hs hd he
  rw [hsz] at hr
  refine ⟨_, _, hr, ⟨by simp, .inr ⟨_, 0, _, rfl, hcap.1, hcap.2, fun i u hi => ?_, by rw [bytesWorld_size]; omega⟩⟩, ⟨?_, ?_, ?_, ?_, ?_⟩, ?_⟩
  · have hlt : i < bs.length := by have := (List.getElem?_eq_some_iff.1 hi).1; simpa using this
    rw [Nat.zero_add, bytesWorld_cell w e _ i (by rw [hsz]; exact hlt)]
    simp [hlt] at hi ⊢
    exact hi
  · unfold bytesWorld World.freeze; rfl
  · unfold bytesWorld World.freeze; rfl
  · unfold bytesWorld World.freeze; rfl
  · rw [bytesWorld_size]; omega
  · intro k hk; exact bytesWorld_at_old w e _ k hk
  · intro b hb
    simp [Value.ownBlock] at hb; omega

theorem str_size (bs : List UInt8) : (⟨bs.toArray⟩ : ByteArray).size = bs.length := by simp [ByteArray.size]
theorem toList_loop (a : ByteArray) : ∀ (n i : Nat) (r : List UInt8), a.size - i = n → ByteArray.toList.loop a i r = r.reverse ++ a.data.toList.drop i := by
  intro n
  induction n with
  | zero =>
    intro i r h
    unfold ByteArray.toList.loop
    have hs : a.size = a.data.size := rfl
    rw [if_neg (by omega), List.drop_of_length_le (by simp; omega), List.append_nil]
  | succ n ih =>
    intro i r h
    unfold ByteArray.toList.loop
    have hs : a.size = a.data.size := rfl
    have hi : i < a.data.toList.length := by simp; omega
    rw [if_pos (by omega), ih (i + 1) _ (by omega), List.drop_eq_getElem_cons hi]
    have hg : a.get! i = a.data.toList[i] := by
      have hi' : i < a.data.size := by omega
      simp [ByteArray.get!, getElem!_pos a.data i hi']
    simp [hg]
theorem toList_mk (bs : List UInt8) : (⟨bs.toArray⟩ : ByteArray).toList = bs := by
  unfold ByteArray.toList
  rw [toList_loop _ _ 0 [] rfl]; simp
theorem op_str_eql (t : TypeId) (a b : List UInt8) : binOp .eql t (str a) (str b) = pure (.bool (a == b)) := by
  rw [binOp_string_eql, toList_mk, toList_mk]
theorem op_str_neq (t : TypeId) (a b : List UInt8) : binOp .neq t (str a) (str b) = pure (.bool (!(a == b))) := by
  rw [binOp_string_neq, toList_mk, toList_mk]
theorem str_append (a b : List UInt8) : (⟨a.toArray⟩ : ByteArray) ++ ⟨b.toArray⟩ = ⟨(a ++ b).toArray⟩ := by
  apply ByteArray.ext
  simp

theorem wpList_copy_str {P : Program} {ops : Array Oper} {rest : List Oper} {o : Oper} {a : Act} {w : World} {Q : Exit → Act → World → Prop} {g off dLen dCap : Nat} {l : List Value} {t dT sT e : TypeId} {x y : Operand} {bs : List UInt8}
    (hB : Blk w g l t) (hgd : o.guard = none) (ho : o.op = .call { callee := .builtin .copy, args := #[x, y], argTypes := #[dT, sT] }) (hx : a.eval x = .slice (some ⟨g, off, none⟩) dLen dCap) (hy : a.eval y = str bs)
    (hu : P.underlying dT = some (.slice e)) (hi : (P.info? e).map (·.size) = some 1) (k : Nat) (hk : k = min bs.length dLen) (hfit : off + k ≤ l.length)
    (h : ∀ w', Blk w' g (l.take off ++ (bs.take k).map byv ++ l.drop (off + k)) t → Oth g w w' → wpList P ops Q rest (a.put o.dst (.int .i64 k)) w') : wpList P ops Q (o :: rest) a w :=
  wpList_plain hgd fun K hK => by
    have hlen : ((bs.take k).map byv).length = k := by simp; omega
    have hst := run_storeCells_at P g off t ((bs.take k).map byv) 0 l.toArray w hB (by simp at hlen ⊢; omega) (bytes_oneCell _)
    simp only [Nat.add_zero, hlen] at hst
    obtain ⟨W, hW⟩ : ∃ W, W = w.setRow g ((l.take off ++ (bs.take k).map byv ++ l.drop (off + k)).toArray) := ⟨_, rfl⟩
    have hrun : (Builtin.copy_ #[dT, sT] o.type #[.slice (some ⟨g, off, none⟩) dLen dCap, str bs]).run P w = .ok (.int .i64 k) W := by
      cases hq : P.info? e with
      | none => simp [hq] at hi
      | some i =>
        have hs : i.size = 1 := by simpa [hq] using hi
        have hk' : Nat.min bs.length dLen = k := hk.symm
        simp only [Builtin.copy_]
        simp [run_underlying hu, Builtin.lenOf, Builtin.firstCells, sizeOf, typeInfo, hq, hs, str_size, hk', -List.map_take]
        simp [-List.map_take] at hst
        rw [hst, hW]
        simp [goInt, -List.map_take]
    unfold Oper.wp
    simp [execOp, ho, resolve, invoke, builtin, hx, hy, hrun, Result.andThen]
    exact hK _ _ (h _ (hW ▸ blk_setRow hB) (hW ▸ oth_setRow))
end Go.Own
end
