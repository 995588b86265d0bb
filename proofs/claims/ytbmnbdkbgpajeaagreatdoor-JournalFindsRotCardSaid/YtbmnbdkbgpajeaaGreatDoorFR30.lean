/- journal: where a slice of one's own lies; what an append changes. -/
import Derived.Test.YtbmnbdkbgpajeaaGreatDoorFR21
import Derived.Test.YtbmnbdkbgpajeaaGreatDoorFR18
import Derived.Test.YtbmnbdkbgpajeaaGreatDoorFR12
/- journal: where a slice of one's own lies; what an append changes. -/
section
namespace Go.Proofs.YtbmnbdkbgpajeaaGreatDoor
open Go.RowKit Go.Own Go.Jn Go.Disk Go.BigFrame Go.Sha
theorem sl_own_lt {W : World} {v : Value} {n : Nat} {vs : List Value} (h : Sl W 1 v n vs) {b : Nat} (hb : v.ownBlock = some b) : b < W.heap.size := by
  obtain ⟨_, ⟨h2, _⟩ | ⟨b', off, cap, h2, _, _, _, h3⟩⟩ := h
  · rw [h2] at hb; cases hb
  · rw [h2] at hb
    have : b' = b := by simpa [Value.ownBlock] using hb
    omega
theorem Chg.of_grown {W W' : World} {o : Option Nat} (hg : W.grownBy W' o) : Chg o.toList W W' := ⟨hg.os, hg.tape, hg.output, hg.size, fun k hk hn => hg.block k hk (fun e => hn (by simp [← e]))⟩
end Go.Proofs.YtbmnbdkbgpajeaaGreatDoor
end
/- A region that draws its order: two operations of which neither waits for the other: each of the two orders by itself. -/
section
namespace Go.Own.SqX
open Go.RowKit Go.Own
open Go.Own.SqE (addE addE_len addE_ne ready_mem wanted_free left_of getD_set_other getD_set_self)
def spB (l : List Oper) (i k : Nat) : Bool := decide (i ≠ k) && decide (k < l.length) && decide (i < l.length) && l.all fun o => o.guard.isNone
structure SpF (l : List Oper) (i k : Nat) : Prop where
  ne : i ≠ k
  lt : k < l.length
  lti : i < l.length
  guard : ∀ (j : Nat) (o : Oper), l[j]? = some o → o.guard = none
theorem spF_of {l : List Oper} {i k : Nat} (h : spB l i k = true) : SpF l i k := by
  simp only [spB, Bool.and_eq_true, decide_eq_true_eq, List.all_eq_true] at h
  exact ⟨h.1.1.1, h.1.1.2, h.1.2, fun j o ho => by simpa using h.2 o (List.mem_of_getElem? ho)⟩
theorem SpF.symm {l : List Oper} {i k : Nat} (F : SpF l i k) : SpF l k i := ⟨fun e => F.ne e.symm, F.lti, F.lt, F.guard⟩
section
variable {P : Program} {l : List Oper} {i k : Nat}
theorem addE_at (F : SpF l i k) : (addE l k i)[k]? = some { l[k]'F.lt with after := (l[k]'F.lt).after.push { on := i, ground := .data } } := by
  unfold addE
  rw [List.getElem?_set_self F.lt, List.getD_eq_getElem?_getD, List.getElem?_eq_getElem F.lt]
  rfl
theorem addE_op (F : SpF l i k) {j : Nat} {o : Oper} (ho : l[j]? = some o) : ∃ A, (addE l k i)[j]? = some { o with after := A } := by
  by_cases h : j = k
  · subst h
    obtain ⟨h1, h2⟩ := List.getElem?_eq_some_iff.1 ho
    exact ⟨_, by rw [addE_at F, h2]⟩
  · exact ⟨o.after, by rw [addE_ne h, ho]⟩
/-- Where i is listed both regions are ready alike. -/
theorem ready_same (F : SpF l i k) {L : Array Bool} (hi : L.getD i false = true) (j : Nat) : j ∈ Region.ready .any l.toArray L ↔ j ∈ Region.ready .any (addE l k i).toArray L := by
  rw [ready_mem, ready_mem]
  by_cases h : j = k
  · subst h
    rw [addE_at F, List.getElem?_eq_getElem F.lt]
    constructor
    · rintro ⟨o, h1, h2, h3⟩
      injection h1 with h1
      subst h1
      refine ⟨_, rfl, h2, fun e he hb => ?_⟩
      rcases Array.mem_push.1 he with he | rfl
      · exact h3 e he hb
      · exact hi
    · rintro ⟨o, h1, h2, h3⟩
      injection h1 with h1
      subst h1
      exact ⟨_, rfl, h2, fun e he hb => h3 e (Array.mem_push.2 (.inl he)) hb⟩
  · rw [addE_ne h]
theorem ready_sub (F : SpF l i k) {L : Array Bool} {j : Nat} (h : j ∈ Region.ready .any (addE l k i).toArray L) : j ∈ Region.ready .any l.toArray L := by
  rw [ready_mem] at h ⊢
  by_cases hj : j = k
  · subst hj
    rw [addE_at F] at h
    rw [List.getElem?_eq_getElem F.lt]
    obtain ⟨o, h1, h2, h3⟩ := h
    injection h1 with h1
    subst h1
    exact ⟨_, rfl, h2, fun e he hb => h3 e (Array.mem_push.2 (.inl he)) hb⟩
  · rwa [addE_ne hj] at h
theorem ready_other {L : Array Bool} {j : Nat} (hj : j ≠ k) : j ∈ Region.ready .any l.toArray L ↔ j ∈ Region.ready .any (addE l k i).toArray L := by
  rw [ready_mem, ready_mem, addE_ne hj]
theorem same (F : SpF l i k) {Q : Exit → Act → World → Prop} (hQ : ∀ X a w, Q X a w → X = .normal) : ∀ (f : Nat) (L : Array Bool) (a : Act) (w : World), L.getD i false = true → wpAny P .any (addE l k i).toArray Q f L a w → wpAny P .any l.toArray Q f L a w
  | 0, L, a, w, hi, h => by
    refine ⟨?_, h.2⟩
    rw [List.eq_nil_iff_forall_not_mem]
    intro m hm
    have := (ready_same F hi m).1 hm
    rw [h.1] at this
    cases this
  | f + 1, L, a, w, hi, h => by
    refine ⟨fun he => h.1 ?_, fun j hj => ?_⟩
    · rw [List.eq_nil_iff_forall_not_mem]
      intro m hm
      have := (ready_same F hi m).2 hm
      rw [he] at this
      cases this
    · obtain ⟨oj, hoj, _, _⟩ := ready_mem.1 hj
      have h5 := h.2 j ((ready_same F hi j).1 hj)
      obtain ⟨A, hA⟩ := addE_op F hoj
      unfold wpOp at h5 ⊢
      rw [List.getElem?_toArray] at h5 ⊢
      rw [hA] at h5
      rw [hoj]
      simp only at h5 ⊢
      rw [if_pos (wanted_free (o := { oj with after := A }) (F.guard j oj hoj) _)] at h5
      rw [if_pos (wanted_free (F.guard j oj hoj) _)]
      left
      have h6 : oj.wp P a w _ Q := left_of hQ h5
      refine Oper.wp_mono (fun a' w' hk => same F hQ f _ a' w' ?_ hk) h6
      rcases Nat.decEq j i with hne | rfl
      · rw [getD_set_other hne]; exact hi
      · rcases Nat.lt_or_ge j L.size with h' | h'
        · simp [h']
        · simp [Array.getElem?_eq_none h'] at hi
/-- i comes before k, if any of the two comes -/
def Bef (i k : Nat) : List Nat → Prop
  | [] => True
  | j :: r => j = i ∨ (j ≠ k ∧ Bef i k r)
theorem bef_or {i k : Nat} : ∀ o : List Nat, Bef i k o ∨ Bef k i o
  | [] => .inl trivial
  | j :: r => by
    by_cases h1 : j = i
    · exact .inl (.inl h1)
    · by_cases h2 : j = k
      · exact .inr (.inl h2)
      · exact (bef_or r).imp (fun h => .inr ⟨h2, h⟩) (fun h => .inr ⟨h1, h⟩)
theorem bef_sound (F : SpF l i k) {Q : Exit → Act → World → Prop} (hQ : ∀ X a w, Q X a w → X = .normal) : ∀ (f t : Nat) (L : Array Bool) (a : Act) (w : World), L.getD i true = false → Bef i k (Region.linearise.go .any l.toArray f t L []) →
    wpAny P .any (addE l k i).toArray Q f L a w → wpOps P l.toArray Q (Region.linearise.go .any l.toArray f t L []) a w := by
  intro f
  induction f with
  | zero => intro t L a w _ _ h; simpa [Region.linearise.go, wpOps] using h.2
  | succ f ih =>
    intro t L a w hu hb h
    obtain ⟨h0, h1⟩ := h
    simp only [Region.linearise.go] at hb ⊢
    change wpOps P l.toArray Q (match (Region.ready .any l.toArray L)[t % (Region.ready .any l.toArray L).length]? with
      | some i => Region.linearise.go .any l.toArray f (t / (Region.ready .any l.toArray L).length) (L.setIfInBounds i true) [i]
      | none => [].reverse) a w
    change Bef i k (match (Region.ready .any l.toArray L)[t % (Region.ready .any l.toArray L).length]? with
      | some i => Region.linearise.go .any l.toArray f (t / (Region.ready .any l.toArray L).length) (L.setIfInBounds i true) [i]
      | none => [].reverse) at hb
    cases hi : (Region.ready .any l.toArray L)[t % (Region.ready .any l.toArray L).length]? with
    | none =>
      have hnil : Region.ready .any l.toArray L = [] := by
        cases hr : Region.ready .any l.toArray L with
        | nil => rfl
        | cons x xs =>
          rw [hr] at hi
          have hlt : t % (x :: xs).length < (x :: xs).length := Nat.mod_lt _ (by simp)
          simp at hi
          simp at hlt
          omega
      have hnil2 : Region.ready .any (addE l k i).toArray L = [] := by
        rw [List.eq_nil_iff_forall_not_mem]
        intro m hm
        have := ready_sub F hm
        rw [hnil] at this
        cases this
      simpa [wpOps] using h0 hnil2
    | some j =>
      rw [hi] at hb
      simp only [] at hb ⊢
      rw [linearise_go_acc, List.reverse_singleton, List.singleton_append] at hb ⊢
      rw [wpOps_cons]
      have hj := List.mem_of_getElem? hi
      have hjk : j ≠ k := by
        rcases hb with rfl | ⟨hb, _⟩
        · exact F.ne
        · exact hb
      have h5 := h1 j ((ready_other hjk).1 hj)
      obtain ⟨oj, hoj, _, _⟩ := ready_mem.1 hj
      unfold wpOp at h5 ⊢
      rw [List.getElem?_toArray] at h5 ⊢
      rw [addE_ne hjk, hoj] at h5
      rw [hoj]
      simp only at h5 ⊢
      rw [if_pos (wanted_free (F.guard j oj hoj) _)] at h5 ⊢
      left
      refine Oper.wp_mono (fun a' w' hk => ?_) (left_of hQ h5)
      by_cases hji : j = i
      · subst hji
        exact wpAny_sound f _ _ a' w' (same F hQ f _ a' w' (getD_set_self hu) hk)
      · rcases hb with hb | ⟨_, hb⟩
        · exact absurd hb hji
        · exact ih _ _ a' w' (by rw [getD_set_other hji]; exact hu) hb hk
end
/-- Each of the two orders by itself. -/
theorem wp_region_split {P : Program} {l : List Oper} {id : Nat} {Q : Exit → Act → World → Prop} {a : Act} {w : World} (i k : Nat) (hm : P.follows .mixedOrders = true) (hB : spB l i k = true)
    (h1 : wpAny P .any (addE l k i).toArray (SqE.Nrm Q) l.length (Array.replicate l.length false) a w.drew)
    (h2 : wpAny P .any (addE l i k).toArray (SqE.Nrm Q) l.length (Array.replicate l.length false) a w.drew) : (Code.region id l.toArray true).wp P Q a w := by
  have F := spF_of hB
  refine Code.wp_mono (Q := SqE.Nrm Q) (fun _ _ _ h => h.2) (wp_region_draw fun t => ?_)
  simp only [Region.schedule, hm, Bool.true_or, if_true]
  have hQ : ∀ X a w, SqE.Nrm Q X a w → X = .normal := fun _ _ _ h => h.1
  have hs : l.toArray.size = l.length := by simp
  have hun : ∀ j, j < l.length → (Array.replicate l.length false).getD j true = false := fun j hj => by simp [hj]
  show wpOps P l.toArray (SqE.Nrm Q) (Region.linearise.go .any l.toArray l.toArray.size t (Array.replicate l.toArray.size false) []) a w.drew
  rw [hs]
  rcases bef_or (i := i) (k := k) (Region.linearise.go .any l.toArray l.length t (Array.replicate l.length false) []) with hb | hb
  · exact bef_sound F hQ _ _ _ _ _ (hun i F.lti) hb h1
  · exact bef_sound F.symm hQ _ _ _ _ _ (hun k F.lt) hb h2
end Go.Own.SqX
namespace Go.SqC
open Go.RowKit Go.Own
variable {P : Program} {l : List Oper} {N : Nat} {ps : List Nat} {Ext : World → Prop}
/-- The chain lemma for any list of operations. -/
theorem any_sqc {Q : Exit → Act → World → Prop} {a : Act} {w : World} (m n : Nat) (ps : List Nat) (Ext : World → Prop) (hn : l.length = n) (hmn : m = n) (hB : sqcB l a.tmps.size ps = true) (hext : Ext w)
    (h : SqW P l ps Ext (fun a' w' => Q .normal a' w') 0 l a w) : wpAny P .any l.toArray Q m (Array.replicate m false) a w := by
  subst hmn
  subst hn
  simp only [sqcB, Bool.and_eq_true] at hB
  obtain ⟨⟨⟨⟨⟨⟨hsel, he⟩, hd⟩, hl⟩, _⟩, hc⟩, hsk⟩ := hB
  have F := sqFc_of hsel he hd hl hc hsk
  have inv0 : HeadInv .any l.toArray l.length (Array.replicate l.toArray.size false) :=
    ⟨by simp, fun j oj _ hl => (by rw [getD_replicate_false] at hl; cases hl), fun t _ h' => getD_in (by simpa using h') (getD_replicate_false _ _)⟩
  have hno : ∀ j, ¬ (j < l.length ∧ (Array.replicate l.toArray.size false).getD j false = true) := fun j hj => by have := hj.2; rw [getD_replicate_false] at this; cases this
  have hseq : Region.seqB .any l.toArray 0 l.length ((List.replicate l.length true).toArray) = true := by
    simp only [Region.seqB, List.isEmpty_iff]
    unfold Region.ready
    rw [List.filter_eq_nil_iff]
    intro i hi
    have hi' : i < l.length := by simpa using hi
    simp [hi']
  have H := sqc_any (Q := Q) (Fin := fun a' w' => Q .normal a' w') F rfl he (fun listed a1 w1 val hsz h1 I fr => ?_) l.length (Array.replicate l.toArray.size false) a w (fun _ => undef) inv0
    ⟨.inl hext, fun j hj => absurd hj (hno j), fun m o hm => absurd hm (hno m), fun u _ j hj => absurd hj (hno j), 0, fun _ => undef, Nat.zero_le _, fun j hj => absurd hj (Nat.not_lt_zero _), fun j hj => absurd hj (hno j), fun j hj => absurd hj (hno j), fun j hj => absurd hj (Nat.not_lt_zero _), h⟩
    ⟨rfl, rfl, fun _ _ => rfl, fun j o d hj => absurd hj (hno j)⟩ (by simp)
  · rw [show l.toArray.size = l.length by simp] at H
    exact H
  · have hlisted : listed = (List.replicate l.length true).toArray := by
      apply Array.ext
      · simp [hsz]
      · intro i hi1 hi2
        have := h1 i (by omega)
        simp only [Array.getD_eq_getD_getElem?, Array.getElem?_eq_getElem hi1, Option.getD_some] at this
        rw [this]
        simp
    obtain ⟨p, hp, hpe, hpl, hsim⟩ := I.sim F rfl
    obtain ⟨u, w', hu, hc', hfin, _, hsame⟩ := hsim (l.length - p) (by omega)
    rw [show p + (l.length - p) = l.length by omega, List.drop_length] at hfin
    have hsame' : w' = w1 := hsame fun j h2 h3 => by
      cases hb : ps.contains j with
      | false => rfl
      | true => have := hpl j (by omega) hb; omega
    subst hsame'
    unfold SqW at hfin
    have ha1 : a1 = putAll l a u l.length := by
      have ht : a1.tmps = (putAll l a u l.length).tmps := by
        refine getD_ext (by rw [putAll_size, fr.size]) fun t ht => ?_
        by_cases hx : ∃ (i : Nat) (o : Oper), l[i]? = some o ∧ o.dst = some t
        · obtain ⟨i, o, ho, hot⟩ := hx
          have hi := (List.getElem?_eq_some_iff.1 ho).1
          rw [slot_at F rfl u hi ho hot, fr.slot i o t hi ho hot, hu i hi]
        · have hno : ∀ (i : Nat) (o : Oper), l[i]? = some o → o.dst ≠ some t := fun i o ho hot => hx ⟨i, o, ho, hot⟩
          rw [slot_other u fun i o _ ho => hno i o ho]
          exact fr.other t hno
      have hdf : a1.defers = (putAll l a u l.length).defers := by rw [putAll_defers, fr.defers]
      cases a1
      cases hp : putAll l a u l.length
      rw [hp] at ht hdf
      simp only at ht hdf
      rw [ht, hdf]
    rw [← ha1] at hfin
    have := wpAny_of_seq (md := .any) (Q' := Q) (P := P) (ops := l.toArray) [] l.length listed a1 w' (fun j => by simp) (by rw [hlisted]; exact hseq) hfin
    exact this
end Go.SqC
namespace Go.Own.SqX
open Go.RowKit Go.Own
open Go.Own.SqE (addE addE_len)
/-- Each of the two orders by itself; the second told in another order of the text. -/
theorem wp_region_split2 {P : Program} {l : List Oper} {id : Nat} {Q : Exit → Act → World → Prop} {a : Act} {w : World} (i k : Nat) (s : List Nat) (iv : Nat → Nat) (L1 L2 : List Oper) (e1 : addE l k i = L1) (e2 : SqP.permL (addE l i k) s iv = L2) (m : Nat) (hlm : l.length = m)
    (hm : P.follows .mixedOrders = true) (hB : spB l i k = true) (hp : SqP.permB (addE l i k) s iv = true)
    (h1 : wpAny P .any L1.toArray (SqE.Nrm Q) m (Array.replicate m false) a w.drew)
    (h2 : wpAny P .any L2.toArray (SqE.Nrm Q) m (Array.replicate m false) a w.drew) : (Code.region id l.toArray true).wp P Q a w := by
  subst e1 e2 hlm
  have hP := SqP.perm_of hp
  refine wp_region_split i k hm hB h1 ?_
  refine SqP.perm_any hP _ _ _ _ _ ⟨by simp [addE_len], by simp [addE_len], fun i hi => ?_⟩ h2
  rw [getD_replicate_false, getD_replicate_false]
end Go.Own.SqX
end
