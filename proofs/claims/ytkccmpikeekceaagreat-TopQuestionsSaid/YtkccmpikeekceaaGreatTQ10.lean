/- A region that draws its order, with one edge more: a move that no one waits for may as well come early. -/
import Derived.Test.YtkccmpikeekceaaGreatTQ09
import Derived.Test.YtkccmpikeekceaaGreatTQ04
import Derived.Test.YtkccmpikeekceaaGreatTQ03
import Derived.Deep.CutBlock
import Derived.Deep.DeepCutAuto
/- A region that draws its order, with one edge more: a move that no one waits for may as well come early. -/
section
namespace Go.Own.SqE
open Go.RowKit Go.Own
/-- Operation k waits for operation i as well. -/
def addE (l : List Oper) (k i : Nat) : List Oper := l.set k { (l.getD k default) with after := (l.getD k default).after.push { on := i, ground := .data } }
def moveB (o : Oper) (d s : Nat) : Bool := (match o.op with | .move (.tmp t) => t == s | _ => false) && (o.dst == some d) && o.after.all fun e => !Region.binds .any e
/-- Operation i is a move from s to d that waits for no one; no other operation writes s or d; who looks at d waits for i. -/
def addB (l : List Oper) (k i d s : Nat) : Bool :=
  decide (i ≠ k) && decide (k < l.length) && decide (d ≠ s) && Region.noSelect l.toArray && (match l[i]? with | some o => moveB o d s | none => false) &&
  ((List.range l.length).all fun j => match l[j]? with
    | some o => o.guard.isNone && (j == i || (o.dst != some d && o.dst != some s && (o.looksAt l.toArray).all fun t => t != d || waitsB o i))
    | none => true)
structure AddF (l : List Oper) (k i d s : Nat) : Prop where
  ne : i ≠ k
  lt : k < l.length
  ds : d ≠ s
  sel : ∀ (j : Nat) (o : Oper) cs b, l[j]? = some o → o.op ≠ .select cs b
  mv : ∃ o, l[i]? = some o ∧ o.op = .move (.tmp s) ∧ o.dst = some d ∧ ∀ e ∈ o.after, Region.binds .any e = false
  guard : ∀ (j : Nat) (o : Oper), l[j]? = some o → o.guard = none
  dst : ∀ (j : Nat) (o : Oper), l[j]? = some o → j ≠ i → o.dst ≠ some d ∧ o.dst ≠ some s
  looks : ∀ (j : Nat) (o : Oper), l[j]? = some o → j ≠ i → d ∈ o.looksAt l.toArray → waitsB o i = true
theorem noSelect_spec {l : List Oper} (h : Region.noSelect l.toArray = true) (j : Nat) (o : Oper) (cs b) (ho : l[j]? = some o) : o.op ≠ .select cs b := by
  exact Region.noSelect_spec h j o cs b (by simpa using ho)
theorem addF_of {l : List Oper} {k i d s : Nat} (h : addB l k i d s = true) : AddF l k i d s := by
  simp only [addB, Bool.and_eq_true, decide_eq_true_eq, List.all_eq_true, List.mem_range] at h
  obtain ⟨⟨⟨⟨⟨h1, h2⟩, h3⟩, h4⟩, h5⟩, h6⟩ := h
  have key : ∀ (j : Nat) (o : Oper), l[j]? = some o → o.guard.isNone = true ∧ (j = i ∨ ((o.dst != some d) = true ∧ (o.dst != some s) = true ∧ ∀ t ∈ o.looksAt l.toArray, t ≠ d ∨ waitsB o i = true)) := fun j o ho => by
    have hj : j < l.length := (List.getElem?_eq_some_iff.1 ho).1
    have := h6 j hj
    rw [ho] at this
    simp only [Bool.and_eq_true, Bool.or_eq_true, beq_iff_eq, List.all_eq_true, bne_iff_ne] at this ⊢
    refine ⟨this.1, this.2.imp id fun h => ⟨h.1.1, h.1.2, h.2⟩⟩
  refine ⟨h1, h2, h3, fun j o cs b ho => noSelect_spec h4 j o cs b ho, ?_, fun j o ho => by simpa using (key j o ho).1, fun j o ho hj => ?_, fun j o ho hj hd => ?_⟩
  · cases ho : l[i]? with
    | none => rw [ho] at h5; cases h5
    | some o =>
      rw [ho] at h5
      simp only [moveB, Bool.and_eq_true, beq_iff_eq, Array.all_eq_true] at h5
      refine ⟨o, rfl, ?_, h5.1.2, fun e he => ?_⟩
      · have := h5.1.1
        split at this
        · rename_i t ht
          rw [ht]
          simp only [beq_iff_eq] at this
          rw [this]
        · cases this
      · obtain ⟨n, hn, rfl⟩ := Array.getElem_of_mem he
        have := h5.2 n hn
        simpa using this
  · have := (key j o ho).2.resolve_left hj
    exact ⟨by simpa using this.1, by simpa using this.2.1⟩
  · exact ((key j o ho).2.resolve_left hj).2.2 d hd |>.resolve_left fun h => h rfl
section
variable {P : Program} {l : List Oper} {k i d s : Nat}
theorem addE_len : (addE l k i).length = l.length := by unfold addE; simp
theorem addE_ne {j : Nat} (h : j ≠ k) : (addE l k i)[j]? = l[j]? := by unfold addE; rw [List.getElem?_set_ne (fun e => h e.symm)]
theorem addE_at (F : AddF l k i d s) : (addE l k i)[k]? = some { l[k]'F.lt with after := (l[k]'F.lt).after.push { on := i, ground := .data } } := by
  unfold addE
  rw [List.getElem?_set_self F.lt, List.getD_eq_getElem?_getD, List.getElem?_eq_getElem F.lt]
  rfl
/-- The operations of the two regions differ in what they wait for alone. -/
theorem addE_op (F : AddF l k i d s) {j : Nat} {o : Oper} (ho : l[j]? = some o) : ∃ A, (addE l k i)[j]? = some { o with after := A } := by
  by_cases h : j = k
  · subst h
    obtain ⟨h1, h2⟩ := List.getElem?_eq_some_iff.1 ho
    exact ⟨_, by rw [addE_at F, h2]⟩
  · exact ⟨o.after, by rw [addE_ne h, ho]⟩
theorem ready_mem {ops : List Oper} {L : Array Bool} {j : Nat} : j ∈ Region.ready .any ops.toArray L ↔ ∃ o, ops[j]? = some o ∧ L.getD j true = false ∧ ∀ e ∈ o.after, Region.binds .any e = true → L.getD e.on false = true := by
  unfold Region.ready
  simp only [List.mem_filter, List.mem_range, List.size_toArray, Bool.and_eq_true, Bool.not_eq_true', List.getElem?_toArray]
  constructor
  · rintro ⟨h1, h2, h3⟩
    refine ⟨ops[j], List.getElem?_eq_getElem h1, h2, fun e he hb => ?_⟩
    rw [List.getElem?_eq_getElem h1] at h3
    simp only [Option.map_some, Option.getD_some, Array.all_eq_true] at h3
    obtain ⟨n, hn, rfl⟩ := Array.getElem_of_mem he
    have := h3 n hn
    rw [hb] at this
    simpa using this
  · rintro ⟨o, h1, h2, h3⟩
    obtain ⟨hj, hjo⟩ := List.getElem?_eq_some_iff.1 h1
    refine ⟨hj, h2, ?_⟩
    rw [h1]
    simp only [Option.map_some, Option.getD_some, Array.all_eq_true]
    intro n hn
    cases hb : Region.binds .any o.after[n] with
    | false => rfl
    | true => simp [h3 _ (Array.getElem_mem hn) hb]
/-- Where i is listed both regions are ready alike. -/
theorem ready_same (F : AddF l k i d s) {L : Array Bool} (hi : L.getD i false = true) (j : Nat) : j ∈ Region.ready .any l.toArray L ↔ j ∈ Region.ready .any (addE l k i).toArray L := by
  rw [ready_mem, ready_mem]
  by_cases h : j = k
  · subst h
    rw [addE_at F, List.getElem?_eq_getElem F.lt]
    constructor
    · rintro ⟨o, h1, h2, h3⟩
      injection h1 with h1
      subst h1
      refine ⟨_, rfl, h2, fun e he hb => ?_⟩
      rcases Array.mem_push.1 he with he | rfl
      · exact h3 e he hb
      · exact hi
    · rintro ⟨o, h1, h2, h3⟩
      injection h1 with h1
      subst h1
      exact ⟨_, rfl, h2, fun e he hb => h3 e (Array.mem_push.2 (.inl he)) hb⟩
  · rw [addE_ne h]
theorem ready_i (F : AddF l k i d s) {L : Array Bool} (hu : L.getD i true = false) : i ∈ Region.ready .any (addE l k i).toArray L := by
  obtain ⟨o, ho, _, _, hb⟩ := F.mv
  exact ready_mem.2 ⟨o, by rw [addE_ne F.ne, ho], hu, fun e he h => by rw [hb e he] at h; cases h⟩
theorem ready_no (_F : AddF l k i d s) {L : Array Bool} (hu : L.getD i true = false) {j : Nat} {o : Oper} (ho : l[j]? = some o) (hj : j ∈ Region.ready .any l.toArray L) : waitsB o i = false := by
  obtain ⟨o', ho', _, h3⟩ := ready_mem.1 hj
  obtain rfl : o = o' := Option.some.inj (ho.symm.trans ho')
  cases hw : waitsB o i with
  | false => rfl
  | true =>
    unfold waitsB at hw
    obtain ⟨e, he, h4⟩ := Array.any_eq_true'.1 hw
    simp only [Bool.and_eq_true, beq_iff_eq] at h4
    have := h3 e he h4.1
    rw [h4.2] at this
    rw [getD_both hu] at this
    cases this
theorem put_comm (a : Act) {d : Nat} {v : Value} {x : Option Tmp} (y : Value) (h : x ≠ some d) : (a.put (some d) v).put x y = (a.put x y).put (some d) v := by
  cases x with
  | none => rfl
  | some t =>
    have : d ≠ t := fun e => h (by rw [e])
    simp only [Act.put]
    rw [Array.setIfInBounds_comm _ _ this]
theorem put_eval (a : Act) {s : Nat} {x : Option Tmp} (y : Value) (h : x ≠ some s) : (a.put x y).tmps.getD s undef = a.tmps.getD s undef := by
  cases x with
  | none => rfl
  | some t =>
    have : t ≠ s := fun e => h (by rw [e])
    simp only [Act.put, Array.getD_eq_getD_getElem?, Array.getElem?_setIfInBounds_ne this]
theorem put_look (a : Act) {d t : Nat} {v : Value} (h : t ≠ d) : (a.put (some d) v).tmps.getD t undef = a.tmps.getD t undef := put_eval a v (fun e => h (by injection e with e; exact e.symm))
/-- One operation that does not look at d, in a frame with d and in one without. -/
theorem wp_without {o : Oper} {a : Act} {w : World} {v : Value} {d s : Nat} {Q : Exit → Act → World → Prop} {K K' : Act → World → Prop} (hQ : ∀ X a w, Q X a w → X = .normal) (he : execOp (a.put (some d) v).eval o = execOp a.eval o) (hd : o.dst ≠ some d) (hs : o.dst ≠ some s)
    (hv : v = a.tmps.getD s undef) (hK : ∀ a1 w1, v = a1.tmps.getD s undef → K' (a1.put (some d) v) w1 → K a1 w1) (h : o.wp P (a.put (some d) v) w K' Q) : o.wp P a w K Q := by
  have hn : ∀ (a1 : Act) (x : Value) w1, a1.tmps = a.tmps → K' ((a1.put (some d) v).put o.dst x) w1 → K (a1.put o.dst x) w1 := fun a1 x w1 e h => by
    rw [put_comm a1 x hd] at h
    exact hK _ _ (by rw [put_eval a1 x hs, e, hv]) h
  unfold Oper.wp at h ⊢
  rw [he] at h
  generalize (execOp a.eval o).run P w = r at *
  cases r with
  | ok n w' =>
    cases n with
    | value x => exact hn a x _ rfl h
    | skip => exact hn a _ _ rfl h
    | defer D => exact hn { a with defers := D :: a.defers } _ _ rfl h
    | enter f args =>
      refine Calls.mono h fun e w'' hh => ?_
      cases e with
      | returned x => exact hn a x _ rfl hh
      | panicked c => exact absurd (hQ _ _ _ hh) (by intro e; cases e)
      | outgrown => exact hh
    | row q args => exact Rows.mono h fun x w'' hh => hn a x _ rfl hh
    | _ => exact h
  | halt x w' =>
    cases x with
    | panic v => exact absurd (hQ _ _ _ h) (by intro e; cases e)
    | _ => exact h
theorem left_of {Q : Exit → Act → World → Prop} (hQ : ∀ X a w, Q X a w → X = .normal) {A B : Prop} (h : A ∨ (B ∧ LetsOut Q)) : A := by
  rcases h with h | ⟨_, a, w, h⟩
  · exact h
  · have := hQ _ _ _ h; cases this
theorem wanted_free {o : Oper} (h : o.guard = none) (y) : Region.wanted o y = true := by unfold Region.wanted; simp only [h]
theorem getD_set_other {L : Array Bool} {i j : Nat} {b : Bool} (h : j ≠ i) : (L.setIfInBounds j true).getD i b = L.getD i b := by
  rw [Array.getD_eq_getD_getElem?, Array.getD_eq_getD_getElem?, Array.getElem?_setIfInBounds_ne h]
theorem set_true_comm (L : Array Bool) (i j : Nat) : (L.setIfInBounds i true).setIfInBounds j true = (L.setIfInBounds j true).setIfInBounds i true := by
  by_cases h : i = j
  · rw [h]
  · exact Array.setIfInBounds_comm _ _ h
theorem getD_set_self {L : Array Bool} {i : Nat} {b : Bool} (h : L.getD i true = false) : (L.setIfInBounds i true).getD i b = true := by
  rcases Nat.lt_or_ge i L.size with h' | h'
  · simp [h']
  · simp [Array.getElem?_eq_none h'] at h
theorem move_run {o : Oper} {x : Operand} (h : o.op = .move x) {ρ : Operand → Value} {w : World} : (execOp ρ o).run P w = .ok (.value (ρ x)) w := by
  obtain ⟨dst, op, type, pos, after, guard⟩ := o
  subst h
  rfl
/-- Where i is listed on both sides. -/
theorem same (F : AddF l k i d s) {Q : Exit → Act → World → Prop} (hQ : ∀ X a w, Q X a w → X = .normal) : ∀ (f : Nat) (L : Array Bool) (a : Act) (w : World), L.getD i false = true → wpAny P .any (addE l k i).toArray Q f L a w → wpAny P .any l.toArray Q f L a w
  | 0, L, a, w, hi, h => by
    refine ⟨?_, h.2⟩
    rw [List.eq_nil_iff_forall_not_mem]
    intro m hm
    have := (ready_same F hi m).1 hm
    rw [h.1] at this
    cases this
  | f + 1, L, a, w, hi, h => by
    refine ⟨fun he => h.1 ?_, fun j hj => ?_⟩
    · rw [List.eq_nil_iff_forall_not_mem]
      intro m hm
      have := (ready_same F hi m).2 hm
      rw [he] at this
      cases this
    · obtain ⟨oj, hoj, _, _⟩ := ready_mem.1 hj
      have h5 := h.2 j ((ready_same F hi j).1 hj)
      obtain ⟨A, hA⟩ := addE_op F hoj
      unfold wpOp at h5 ⊢
      rw [List.getElem?_toArray] at h5 ⊢
      rw [hA] at h5
      rw [hoj]
      simp only at h5 ⊢
      rw [if_pos (wanted_free (o := { oj with after := A }) (F.guard j oj hoj) _)] at h5
      rw [if_pos (wanted_free (F.guard j oj hoj) _)]
      left
      have h6 : oj.wp P a w _ Q := left_of hQ h5
      refine Oper.wp_mono (fun a' w' hk => same F hQ f _ a' w' ?_ hk) h6
      rcases Nat.decEq j i with hne | rfl
      · rw [getD_set_other hne]; exact hi
      · rcases Nat.lt_or_ge j L.size with h' | h'
        · simp [h']
        · simp [Array.getElem?_eq_none h'] at hi
/-- i is out of the way on the one side, and still to come on the other. -/
theorem later (F : AddF l k i d s) {Q : Exit → Act → World → Prop} (hQ : ∀ X a w, Q X a w → X = .normal) : ∀ (f : Nat) (L : Array Bool) (a : Act) (w : World) (v : Value), v = a.tmps.getD s undef → L.getD i true = false →
    wpAny P .any (addE l k i).toArray Q f (L.setIfInBounds i true) (a.put (some d) v) w → wpAny P .any l.toArray Q (f + 1) L a w := by
  intro f
  induction f with
  | zero =>
    intro L a w v hv hu h
    refine ⟨fun he => ?_, fun j hj => ?_⟩
    · obtain ⟨o, ho, _, _, hb⟩ := F.mv
      have : i ∈ Region.ready .any l.toArray L := ready_mem.2 ⟨o, ho, hu, fun e he h => by rw [hb e he] at h; cases h⟩
      rw [he] at this
      cases this
    · obtain ⟨oj, hoj, hju, h3⟩ := ready_mem.1 hj
      by_cases hji : j = i
      · subst hji
        obtain ⟨o, ho, hop, hod, hb⟩ := F.mv
        obtain rfl : oj = o := Option.some.inj (hoj.symm.trans ho)
        have hLi : (L.setIfInBounds j true).getD j false = true := getD_set_self hu
        unfold wpOp
        rw [List.getElem?_toArray, hoj]
        simp only
        rw [if_pos (wanted_free (F.guard j oj hoj) _)]
        left
        unfold Oper.wp
        rw [move_run hop]
        simp only [Oper.upon, hod]
        rw [Act.eval, ← hv]
        refine ⟨?_, h.2⟩
        rw [List.eq_nil_iff_forall_not_mem]
        intro m hm
        have := (ready_same F hLi m).1 hm
        rw [h.1] at this
        cases this
      · exfalso
        have hLi : (L.setIfInBounds i true).getD i false = true := getD_set_self hu
        have : j ∈ Region.ready .any (addE l k i).toArray (L.setIfInBounds i true) := by
          rw [← ready_same F hLi]
          refine ready_mem.2 ⟨oj, hoj, by rw [getD_set_other (fun e => hji e.symm)]; exact hju, fun e he hb => ?_⟩
          have h4 := h3 e he hb
          by_cases hei : e.on = i
          · rw [hei]; exact hLi
          · rw [getD_set_other (fun e' => hei e'.symm)]; exact h4
        rw [h.1] at this
        cases this
  | succ f ih =>
    intro L a w v hv hu h
    have hLi : (L.setIfInBounds i true).getD i false = true := getD_set_self hu
    refine ⟨fun he => ?_, fun j hj => ?_⟩
    · obtain ⟨o, ho, _, _, hb⟩ := F.mv
      have : i ∈ Region.ready .any l.toArray L := ready_mem.2 ⟨o, ho, hu, fun e he h => by rw [hb e he] at h; cases h⟩
      rw [he] at this
      cases this
    · obtain ⟨oj, hoj, hju, h3⟩ := ready_mem.1 hj
      by_cases hji : j = i
      · subst hji
        obtain ⟨o, ho, hop, hod, hb⟩ := F.mv
        obtain rfl : oj = o := Option.some.inj (hoj.symm.trans ho)
        unfold wpOp
        rw [List.getElem?_toArray, hoj]
        simp only
        rw [if_pos (wanted_free (F.guard j oj hoj) _)]
        left
        unfold Oper.wp
        rw [move_run hop]
        simp only [Oper.upon, hod]
        rw [Act.eval, ← hv]
        exact same F hQ _ _ _ _ hLi h
      · have hj' : j ∈ Region.ready .any (addE l k i).toArray (L.setIfInBounds i true) := by
          rw [← ready_same F hLi]
          refine ready_mem.2 ⟨oj, hoj, by rw [getD_set_other (fun e => hji e.symm)]; exact hju, fun e he hb => ?_⟩
          have h4 := h3 e he hb
          by_cases hei : e.on = i
          · rw [hei]; exact hLi
          · rw [getD_set_other (fun e' => hei e'.symm)]; exact h4
        have h5 := h.2 j hj'
        obtain ⟨A, hA⟩ := addE_op F hoj
        unfold wpOp at h5 ⊢
        rw [List.getElem?_toArray] at h5 ⊢
        rw [hA] at h5
        rw [hoj]
        simp only at h5 ⊢
        rw [if_pos (wanted_free (o := { oj with after := A }) (F.guard j oj hoj) _)] at h5
        rw [if_pos (wanted_free (F.guard j oj hoj) _)]
        left
        have h6 : oj.wp P (a.put (some d) v) w _ Q := left_of hQ h5
        have hno := ready_no F hu hoj hj
        have hlk : ∀ t, t ∈ oj.looksAt l.toArray → (a.put (some d) v).tmps.getD t undef = a.tmps.getD t undef := fun t ht => put_look a fun e => by
          subst e
          have := F.looks j oj hoj hji ht
          rw [hno] at this
          cases this
        have hex := exec_same (ops := l.toArray) (o := oj) (b := a.put (some d) v) (b' := a) (fun cs b => F.sel j oj cs b hoj) hlk
        refine wp_without (v := v) (s := s) (d := d) hQ hex (F.dst j oj hoj hji).1 (F.dst j oj hoj hji).2 hv (fun a1 w1 hv1 h7 => ?_) h6
        refine ih _ a1 w1 v hv1 (by rw [getD_set_other hji]; exact hu) ?_
        rw [set_true_comm]
        exact h7
/-- The region with the edge serves the region without. -/
theorem add_any (F : AddF l k i d s) {Q : Exit → Act → World → Prop} (hQ : ∀ X a w, Q X a w → X = .normal) (f : Nat) (L : Array Bool) (a : Act) (w : World) (hu : L.getD i true = false)
    (h : wpAny P .any (addE l k i).toArray Q f L a w) : wpAny P .any l.toArray Q f L a w := by
  cases f with
  | zero =>
    have := ready_i F hu
    rw [h.1] at this
    cases this
  | succ f =>
    have h1 := h.2 i (ready_i F hu)
    obtain ⟨o, ho, hop, hod, hb⟩ := F.mv
    unfold wpOp at h1
    rw [List.getElem?_toArray, addE_ne F.ne, ho] at h1
    simp only at h1
    rw [if_pos (wanted_free (F.guard i o ho) _)] at h1
    have h2 := left_of hQ h1
    unfold Oper.wp at h2
    rw [move_run hop] at h2
    simp only [Oper.upon, hod] at h2
    exact later F hQ f L a w _ rfl hu h2
/-- A region that ends, and does not panic. -/
def Nrm (Q : Exit → Act → World → Prop) (X : Exit) (a : Act) (w : World) : Prop := X = .normal ∧ Q X a w
theorem nrm {Q : Exit → Act → World → Prop} {a : Act} {w : World} (h : Q .normal a w) : Nrm Q .normal a w := ⟨rfl, h⟩
/-- A region that draws its order, told with one edge more. -/
theorem wp_region_sqE {id : Nat} {Q : Exit → Act → World → Prop} {a : Act} {w : World} (k i d s : Nat) (l' : List Oper) (hl' : addE l k i = l') (n : Nat) (ps : List Nat) (Ext : World → World → Prop) (Post : Nat → Value → World → Prop) (hm : P.follows .mixedOrders = true)
    (hp : addB l k i d s = true) (hB : sqB l' n a.tmps.size ps = true) (hrefl : ∀ w, Ext w w) (htrans : ∀ a b c, Ext a b → Ext b c → Ext a c) (stable : ∀ i v w w', Post i v w → Ext w w' → Post i v w')
    (h : SqW P l' ps Ext w.drew Post (fun a' => ∀ w', Ext w.drew w' → (∀ j d, j < n → ps.contains j = true → (l'[j]?).bind (·.dst) = some d → (∀ o', l'[j]? = some o' → Region.wanted o' (yielded l'.toArray a'.tmps) = true) → Post j (a'.tmps.getD d undef) w') →
      wpList P l'.toArray (Nrm Q) (l'.drop n) a' w') 0 (l'.take n) a) : (Code.region id l.toArray true).wp P Q a w := by
  have F := addF_of hp
  refine Code.wp_mono (Q := Nrm Q) (fun _ _ _ h => h.2) (wp_region_any hm ?_)
  have h1 := SqP.any_sq (Q := Nrm Q) n ps Ext Post hB hrefl htrans stable h
  subst hl'
  have hlen : (addE l k i).toArray.size = l.toArray.size := by simp [addE_len]
  rw [hlen] at h1
  refine add_any F (fun _ _ _ h => h.1) _ _ _ _ ?_ h1
  obtain ⟨o, ho, _⟩ := F.mv
  exact getD_in (by simpa using (List.getElem?_eq_some_iff.1 ho).1) (getD_replicate_false _ _)
end
end Go.Own.SqE
end
/- A region that draws its order: two operations of which neither waits for the other: each of the two orders by itself. -/
section
namespace Go.Own.SqX
open Go.RowKit Go.Own
open Go.Own.SqE (addE addE_len addE_ne ready_mem wanted_free left_of getD_set_other getD_set_self)
def spB (l : List Oper) (i k : Nat) : Bool := decide (i ≠ k) && decide (k < l.length) && decide (i < l.length) && l.all fun o => o.guard.isNone
structure SpF (l : List Oper) (i k : Nat) : Prop where
  ne : i ≠ k
  lt : k < l.length
  lti : i < l.length
  guard : ∀ (j : Nat) (o : Oper), l[j]? = some o → o.guard = none
theorem spF_of {l : List Oper} {i k : Nat} (h : spB l i k = true) : SpF l i k := by
  simp only [spB, Bool.and_eq_true, decide_eq_true_eq, List.all_eq_true] at h
  exact ⟨h.1.1.1, h.1.1.2, h.1.2, fun j o ho => by simpa using h.2 o (List.mem_of_getElem? ho)⟩
theorem SpF.symm {l : List Oper} {i k : Nat} (F : SpF l i k) : SpF l k i := ⟨fun e => F.ne e.symm, F.lti, F.lt, F.guard⟩
section
variable {P : Program} {l : List Oper} {i k : Nat}
theorem addE_at (F : SpF l i k) : (addE l k i)[k]? = some { l[k]'F.lt with after := (l[k]'F.lt).after.push { on := i, ground := .data } } := by
  unfold addE
  rw [List.getElem?_set_self F.lt, List.getD_eq_getElem?_getD, List.getElem?_eq_getElem F.lt]
  rfl
theorem addE_op (F : SpF l i k) {j : Nat} {o : Oper} (ho : l[j]? = some o) : ∃ A, (addE l k i)[j]? = some { o with after := A } := by
  by_cases h : j = k
  · subst h
    obtain ⟨h1, h2⟩ := List.getElem?_eq_some_iff.1 ho
    exact ⟨_, by rw [addE_at F, h2]⟩
  · exact ⟨o.after, by rw [addE_ne h, ho]⟩
/-- Where i is listed both regions are ready alike. -/
theorem ready_same (F : SpF l i k) {L : Array Bool} (hi : L.getD i false = true) (j : Nat) : j ∈ Region.ready .any l.toArray L ↔ j ∈ Region.ready .any (addE l k i).toArray L := by
  rw [ready_mem, ready_mem]
  by_cases h : j = k
  · subst h
    rw [addE_at F, List.getElem?_eq_getElem F.lt]
    constructor
    · rintro ⟨o, h1, h2, h3⟩
      injection h1 with h1
      subst h1
      refine ⟨_, rfl, h2, fun e he hb => ?_⟩
      rcases Array.mem_push.1 he with he | rfl
      · exact h3 e he hb
      · exact hi
    · rintro ⟨o, h1, h2, h3⟩
      injection h1 with h1
      subst h1
      exact ⟨_, rfl, h2, fun e he hb => h3 e (Array.mem_push.2 (.inl he)) hb⟩
  · rw [addE_ne h]
theorem ready_sub (F : SpF l i k) {L : Array Bool} {j : Nat} (h : j ∈ Region.ready .any (addE l k i).toArray L) : j ∈ Region.ready .any l.toArray L := by
  rw [ready_mem] at h ⊢
  by_cases hj : j = k
  · subst hj
    rw [addE_at F] at h
    rw [List.getElem?_eq_getElem F.lt]
    obtain ⟨o, h1, h2, h3⟩ := h
    injection h1 with h1
    subst h1
    exact ⟨_, rfl, h2, fun e he hb => h3 e (Array.mem_push.2 (.inl he)) hb⟩
  · rwa [addE_ne hj] at h
theorem ready_other {L : Array Bool} {j : Nat} (hj : j ≠ k) : j ∈ Region.ready .any l.toArray L ↔ j ∈ Region.ready .any (addE l k i).toArray L := by
  rw [ready_mem, ready_mem, addE_ne hj]
theorem same (F : SpF l i k) {Q : Exit → Act → World → Prop} (hQ : ∀ X a w, Q X a w → X = .normal) : ∀ (f : Nat) (L : Array Bool) (a : Act) (w : World), L.getD i false = true → wpAny P .any (addE l k i).toArray Q f L a w → wpAny P .any l.toArray Q f L a w
  | 0, L, a, w, hi, h => by
    refine ⟨?_, h.2⟩
    rw [List.eq_nil_iff_forall_not_mem]
    intro m hm
    have := (ready_same F hi m).1 hm
    rw [h.1] at this
    cases this
  | f + 1, L, a, w, hi, h => by
    refine ⟨fun he => h.1 ?_, fun j hj => ?_⟩
    · rw [List.eq_nil_iff_forall_not_mem]
      intro m hm
      have := (ready_same F hi m).2 hm
      rw [he] at this
      cases this
    · obtain ⟨oj, hoj, _, _⟩ := ready_mem.1 hj
      have h5 := h.2 j ((ready_same F hi j).1 hj)
      obtain ⟨A, hA⟩ := addE_op F hoj
      unfold wpOp at h5 ⊢
      rw [List.getElem?_toArray] at h5 ⊢
      rw [hA] at h5
      rw [hoj]
      simp only at h5 ⊢
      rw [if_pos (wanted_free (o := { oj with after := A }) (F.guard j oj hoj) _)] at h5
      rw [if_pos (wanted_free (F.guard j oj hoj) _)]
      left
      have h6 : oj.wp P a w _ Q := left_of hQ h5
      refine Oper.wp_mono (fun a' w' hk => same F hQ f _ a' w' ?_ hk) h6
      rcases Nat.decEq j i with hne | rfl
      · rw [getD_set_other hne]; exact hi
      · rcases Nat.lt_or_ge j L.size with h' | h'
        · simp [h']
        · simp [Array.getElem?_eq_none h'] at hi
/-- i comes before k, if any of the two comes -/
def Bef (i k : Nat) : List Nat → Prop
  | [] => True
  | j :: r => j = i ∨ (j ≠ k ∧ Bef i k r)
theorem bef_or {i k : Nat} : ∀ o : List Nat, Bef i k o ∨ Bef k i o
  | [] => .inl trivial
  | j :: r => by
    by_cases h1 : j = i
    · exact .inl (.inl h1)
    · by_cases h2 : j = k
      · exact .inr (.inl h2)
      · exact (bef_or r).imp (fun h => .inr ⟨h2, h⟩) (fun h => .inr ⟨h1, h⟩)
theorem bef_sound (F : SpF l i k) {Q : Exit → Act → World → Prop} (hQ : ∀ X a w, Q X a w → X = .normal) : ∀ (f t : Nat) (L : Array Bool) (a : Act) (w : World), L.getD i true = false → Bef i k (Region.linearise.go .any l.toArray f t L []) →
    wpAny P .any (addE l k i).toArray Q f L a w → wpOps P l.toArray Q (Region.linearise.go .any l.toArray f t L []) a w := by
  intro f
  induction f with
  | zero => intro t L a w _ _ h; simpa [Region.linearise.go, wpOps] using h.2
  | succ f ih =>
    intro t L a w hu hb h
    obtain ⟨h0, h1⟩ := h
    simp only [Region.linearise.go] at hb ⊢
    change wpOps P l.toArray Q (match (Region.ready .any l.toArray L)[t % (Region.ready .any l.toArray L).length]? with
      | some i => Region.linearise.go .any l.toArray f (t / (Region.ready .any l.toArray L).length) (L.setIfInBounds i true) [i]
      | none => [].reverse) a w
    change Bef i k (match (Region.ready .any l.toArray L)[t % (Region.ready .any l.toArray L).length]? with
      | some i => Region.linearise.go .any l.toArray f (t / (Region.ready .any l.toArray L).length) (L.setIfInBounds i true) [i]
      | none => [].reverse) at hb
    cases hi : (Region.ready .any l.toArray L)[t % (Region.ready .any l.toArray L).length]? with
    | none =>
      have hnil : Region.ready .any l.toArray L = [] := by
        cases hr : Region.ready .any l.toArray L with
        | nil => rfl
        | cons x xs =>
          rw [hr] at hi
          have hlt : t % (x :: xs).length < (x :: xs).length := Nat.mod_lt _ (by simp)
          simp at hi
          simp at hlt
          omega
      have hnil2 : Region.ready .any (addE l k i).toArray L = [] := by
        rw [List.eq_nil_iff_forall_not_mem]
        intro m hm
        have := ready_sub F hm
        rw [hnil] at this
        cases this
      simpa [wpOps] using h0 hnil2
    | some j =>
      rw [hi] at hb
      simp only [] at hb ⊢
      rw [linearise_go_acc, List.reverse_singleton, List.singleton_append] at hb ⊢
      rw [wpOps_cons]
      have hj := List.mem_of_getElem? hi
      have hjk : j ≠ k := by
        rcases hb with rfl | ⟨hb, _⟩
        · exact F.ne
        · exact hb
      have h5 := h1 j ((ready_other hjk).1 hj)
      obtain ⟨oj, hoj, _, _⟩ := ready_mem.1 hj
      unfold wpOp at h5 ⊢
      rw [List.getElem?_toArray] at h5 ⊢
      rw [addE_ne hjk, hoj] at h5
      rw [hoj]
      simp only at h5 ⊢
      rw [if_pos (wanted_free (F.guard j oj hoj) _)] at h5 ⊢
      left
      refine Oper.wp_mono (fun a' w' hk => ?_) (left_of hQ h5)
      by_cases hji : j = i
      · subst hji
        exact wpAny_sound f _ _ a' w' (same F hQ f _ a' w' (getD_set_self hu) hk)
      · rcases hb with hb | ⟨_, hb⟩
        · exact absurd hb hji
        · exact ih _ _ a' w' (by rw [getD_set_other hji]; exact hu) hb hk
end
/-- Each of the two orders by itself. -/
theorem wp_region_split {P : Program} {l : List Oper} {id : Nat} {Q : Exit → Act → World → Prop} {a : Act} {w : World} (i k : Nat) (hm : P.follows .mixedOrders = true) (hB : spB l i k = true)
    (h1 : wpAny P .any (addE l k i).toArray (SqE.Nrm Q) l.length (Array.replicate l.length false) a w.drew)
    (h2 : wpAny P .any (addE l i k).toArray (SqE.Nrm Q) l.length (Array.replicate l.length false) a w.drew) : (Code.region id l.toArray true).wp P Q a w := by
  have F := spF_of hB
  refine Code.wp_mono (Q := SqE.Nrm Q) (fun _ _ _ h => h.2) (wp_region_draw fun t => ?_)
  simp only [Region.schedule, hm, Bool.true_or, if_true]
  have hQ : ∀ X a w, SqE.Nrm Q X a w → X = .normal := fun _ _ _ h => h.1
  have hs : l.toArray.size = l.length := by simp
  have hun : ∀ j, j < l.length → (Array.replicate l.length false).getD j true = false := fun j hj => by simp [hj]
  show wpOps P l.toArray (SqE.Nrm Q) (Region.linearise.go .any l.toArray l.toArray.size t (Array.replicate l.toArray.size false) []) a w.drew
  rw [hs]
  rcases bef_or (i := i) (k := k) (Region.linearise.go .any l.toArray l.length t (Array.replicate l.length false) []) with hb | hb
  · exact bef_sound F hQ _ _ _ _ _ (hun i F.lti) hb h1
  · exact bef_sound F.symm hQ _ _ _ _ _ (hun k F.lt) hb h2
end Go.Own.SqX
namespace Go.SqC
open Go.RowKit Go.Own
variable {P : Program} {l : List Oper} {N : Nat} {ps : List Nat} {Ext : World → Prop}
/-- The chain lemma for any list of operations. -/
theorem any_sqc {Q : Exit → Act → World → Prop} {a : Act} {w : World} (m n : Nat) (ps : List Nat) (Ext : World → Prop) (hn : l.length = n) (hmn : m = n) (hB : sqcB l a.tmps.size ps = true) (hext : Ext w)
    (h : SqW P l ps Ext (fun a' w' => Q .normal a' w') 0 l a w) : wpAny P .any l.toArray Q m (Array.replicate m false) a w := by
  subst hmn
  subst hn
  simp only [sqcB, Bool.and_eq_true] at hB
  obtain ⟨⟨⟨⟨⟨⟨hsel, he⟩, hd⟩, hl⟩, _⟩, hc⟩, hsk⟩ := hB
  have F := sqFc_of hsel he hd hl hc hsk
  have inv0 : HeadInv .any l.toArray l.length (Array.replicate l.toArray.size false) :=
    ⟨by simp, fun j oj _ hl => (by rw [getD_replicate_false] at hl; cases hl), fun t _ h' => getD_in (by simpa using h') (getD_replicate_false _ _)⟩
  have hno : ∀ j, ¬ (j < l.length ∧ (Array.replicate l.toArray.size false).getD j false = true) := fun j hj => by have := hj.2; rw [getD_replicate_false] at this; cases this
  have hseq : Region.seqB .any l.toArray 0 l.length ((List.replicate l.length true).toArray) = true := by
    simp only [Region.seqB, List.isEmpty_iff]
    unfold Region.ready
    rw [List.filter_eq_nil_iff]
    intro i hi
    have hi' : i < l.length := by simpa using hi
    simp [hi']
  have H := sqc_any (Q := Q) (Fin := fun a' w' => Q .normal a' w') F rfl he (fun listed a1 w1 val hsz h1 I fr => ?_) l.length (Array.replicate l.toArray.size false) a w (fun _ => undef) inv0
    ⟨.inl hext, fun j hj => absurd hj (hno j), fun m o hm => absurd hm (hno m), fun u _ j hj => absurd hj (hno j), 0, fun _ => undef, Nat.zero_le _, fun j hj => absurd hj (Nat.not_lt_zero _), fun j hj => absurd hj (hno j), fun j hj => absurd hj (hno j), fun j hj => absurd hj (Nat.not_lt_zero _), h⟩
    ⟨rfl, rfl, fun _ _ => rfl, fun j o d hj => absurd hj (hno j)⟩ (by simp)
  · rw [show l.toArray.size = l.length by simp] at H
    exact H
  · have hlisted : listed = (List.replicate l.length true).toArray := by
      apply Array.ext
      · simp [hsz]
      · intro i hi1 hi2
        have := h1 i (by omega)
        simp only [Array.getD_eq_getD_getElem?, Array.getElem?_eq_getElem hi1, Option.getD_some] at this
        rw [this]
        simp
    obtain ⟨p, hp, hpe, hpl, hsim⟩ := I.sim F rfl
    obtain ⟨u, w', hu, hc', hfin, _, hsame⟩ := hsim (l.length - p) (by omega)
    rw [show p + (l.length - p) = l.length by omega, List.drop_length] at hfin
    have hsame' : w' = w1 := hsame fun j h2 h3 => by
      cases hb : ps.contains j with
      | false => rfl
      | true => have := hpl j (by omega) hb; omega
    subst hsame'
    unfold SqW at hfin
    have ha1 : a1 = putAll l a u l.length := by
      have ht : a1.tmps = (putAll l a u l.length).tmps := by
        refine getD_ext (by rw [putAll_size, fr.size]) fun t ht => ?_
        by_cases hx : ∃ (i : Nat) (o : Oper), l[i]? = some o ∧ o.dst = some t
        · obtain ⟨i, o, ho, hot⟩ := hx
          have hi := (List.getElem?_eq_some_iff.1 ho).1
          rw [slot_at F rfl u hi ho hot, fr.slot i o t hi ho hot, hu i hi]
        · have hno : ∀ (i : Nat) (o : Oper), l[i]? = some o → o.dst ≠ some t := fun i o ho hot => hx ⟨i, o, ho, hot⟩
          rw [slot_other u fun i o _ ho => hno i o ho]
          exact fr.other t hno
      have hdf : a1.defers = (putAll l a u l.length).defers := by rw [putAll_defers, fr.defers]
      cases a1
      cases hp : putAll l a u l.length
      rw [hp] at ht hdf
      simp only at ht hdf
      rw [ht, hdf]
    rw [← ha1] at hfin
    have := wpAny_of_seq (md := .any) (Q' := Q) (P := P) (ops := l.toArray) [] l.length listed a1 w' (fun j => by simp) (by rw [hlisted]; exact hseq) hfin
    exact this
end Go.SqC
namespace Go.Own.SqX
open Go.RowKit Go.Own
open Go.Own.SqE (addE addE_len)
/-- Each of the two orders by itself; the second told in another order of the text. -/
theorem wp_region_split2 {P : Program} {l : List Oper} {id : Nat} {Q : Exit → Act → World → Prop} {a : Act} {w : World} (i k : Nat) (s : List Nat) (iv : Nat → Nat) (L1 L2 : List Oper) (e1 : addE l k i = L1) (e2 : SqP.permL (addE l i k) s iv = L2) (m : Nat) (hlm : l.length = m)
    (hm : P.follows .mixedOrders = true) (hB : spB l i k = true) (hp : SqP.permB (addE l i k) s iv = true)
    (h1 : wpAny P .any L1.toArray (SqE.Nrm Q) m (Array.replicate m false) a w.drew)
    (h2 : wpAny P .any L2.toArray (SqE.Nrm Q) m (Array.replicate m false) a w.drew) : (Code.region id l.toArray true).wp P Q a w := by
  subst e1 e2 hlm
  have hP := SqP.perm_of hp
  refine wp_region_split i k hm hB h1 ?_
  refine SqP.perm_any hP _ _ _ _ _ ⟨by simp [addE_len], by simp [addE_len], fun i hi => ?_⟩ h2
  rw [getD_replicate_false, getD_replicate_false]
end Go.Own.SqX
end
/- A list of operations in any order that its edges allow: with a relation between an operation's value and its ancestors'. -/
section
namespace Go.SqR
open Go.RowKit Go.Own
variable {P : Program} {l : List Oper} {N : Nat}
/-- The lemma of SqR for any list of operations. -/
theorem any_sqr {Q : Exit → Act → World → Prop} {a : Act} {w : World} (m : Nat) (hlm : l.length = m) (n : Nat) (ps : List Nat) (Ext : World → World → Prop) (Post : Nat → Value → World → Prop) (R : Nat → (Nat → Value) → Value → Prop) (hR : ∀ k ρ ρ' v, (∀ j, ancB l k j = true → ρ j = ρ' j) → R k ρ v → R k ρ' v) (hB : sqB l n a.tmps.size ps = true)
    (hrefl : ∀ w, Ext w w) (htrans : ∀ a b c, Ext a b → Ext b c → Ext a c) (stable : ∀ i v w w', Post i v w → Ext w w' → Post i v w')
    (h : SqW P l ps Ext w Post R (fun a' => ∀ w', Ext w w' → (∀ j d, j < n → ps.contains j = true → (l[j]?).bind (·.dst) = some d → (∀ o', l[j]? = some o' → Region.wanted o' (yielded l.toArray a'.tmps) = true) → Post j (a'.tmps.getD d undef) w') →
      wpList P l.toArray Q (l.drop n) a' w') 0 (l.take n) a) : wpAny P .any l.toArray Q m (Array.replicate m false) a w := by
  subst hlm
  simp only [sqB, Bool.and_eq_true, Bool.or_eq_true, decide_eq_true_eq, beq_iff_eq] at hB
  obtain ⟨⟨⟨⟨⟨hsel, he⟩, hd⟩, hl⟩, _⟩, hq⟩ := hB
  have F := sqF_of hsel he hd hl
  have hn : n ≤ l.length := by rcases hq with h | h <;> omega
  have hq' : n = l.length ∨ (Region.sinkB .any l.toArray n = true ∧ Region.chainB .any l.toArray n = true ∧ n < l.length) := hq.imp (fun h => h) fun h => ⟨h.1.1.1, h.1.1.2, h.1.2⟩
  have hseq : Region.seqB .any l.toArray (l.length - n) n ((List.replicate n true ++ List.replicate (l.length - n) false).toArray) = true := by
    rcases hq with h | h
    · subst h
      rw [Nat.sub_self]
      simp only [Region.seqB, List.isEmpty_iff, List.replicate_zero, List.append_nil]
      unfold Region.ready
      rw [List.filter_eq_nil_iff]
      intro i hi
      have hi' : i < l.length := by simpa using hi
      simp [hi']
    · exact h.2
  have inv0 : HeadInv .any l.toArray n (Array.replicate l.toArray.size false) :=
    ⟨by simp, fun j oj _ hl => (by rw [getD_replicate_false] at hl; cases hl), fun t _ h' => getD_in (by simpa using h') (getD_replicate_false _ _)⟩
  have hno : ∀ j, ¬ (j < n ∧ (Array.replicate l.toArray.size false).getD j false = true) := fun j hj => by have := hj.2; rw [getD_replicate_false] at this; cases this
  have H := sq_any (Q := Q) (g := l.length - n) F hR hrefl htrans stable rfl h hn he hq' (fun listed a1 w1 val hsz h1 h2 I fr => ?_) n (Array.replicate l.toArray.size false) a w (fun _ => undef) inv0
    ⟨hrefl _, fun j hj => absurd hj (hno j), fun m o hm => absurd hm (hno m), fun u _ j hj => absurd hj (hno j), fun u _ j hj => absurd hj (hno j)⟩
    ⟨rfl, rfl, fun _ _ => rfl, fun j o d hj => absurd hj (hno j)⟩ (by simp; omega)
  · rw [show n + (l.length - n) = l.toArray.size by simp; omega] at H
    exact H
  · have hlisted : listed = (List.replicate n true ++ List.replicate (l.length - n) false).toArray := by
      apply Array.ext
      · simp [hsz]; omega
      · intro i hi1 hi2
        by_cases hin : i < n
        · have := h1 i hin
          simp only [Array.getD_eq_getD_getElem?, Array.getElem?_eq_getElem hi1, Option.getD_some] at this
          rw [this]
          simp [hin]
        · have := h2 i (by omega) (by omega)
          simp only [Array.getD_eq_getD_getElem?, Array.getElem?_eq_getElem hi1, Option.getD_some] at this
          rw [this]
          simp [List.getElem_append, hin]
    have hfin := sqw_along hrefl (u := val) h hn n (Nat.le_refl _) fun j hj => I.cons val (fun _ _ => rfl) j hj
    have hnil : (l.take n).drop n = [] := List.drop_of_length_le (by simp; omega)
    rw [hnil] at hfin
    unfold SqW at hfin
    have ha1 : a1 = putAll l a val n := by
      have ht : a1.tmps = (putAll l a val n).tmps := by
        refine getD_ext (by rw [putAll_size, fr.size]) fun t ht => ?_
        by_cases hx : ∃ i o, i < n ∧ l[i]? = some o ∧ o.dst = some t
        · obtain ⟨i, o, hi, ho, hot⟩ := hx
          rw [slot_at F rfl val (Nat.le_refl _) hi ho hot, fr.slot i o t hi ho hot]
        · have hno : ∀ i o, i < n → l[i]? = some o → o.dst ≠ some t := fun i o hi ho hot => hx ⟨i, o, hi, ho, hot⟩
          rw [slot_other val hno]
          exact fr.other t hno
      have hdf : a1.defers = (putAll l a val n).defers := by rw [putAll_defers, fr.defers]
      cases a1
      cases hp : putAll l a val n
      rw [hp] at ht hdf
      simp only at ht hdf
      rw [ht, hdf]
    have hw := hfin w1 I.ext fun j d hj hp hdj hwj => by
      obtain ⟨oj, hoj, hdj'⟩ := Option.bind_eq_some_iff.1 hdj
      rw [slot_at F rfl val (Nat.le_refl _) hj hoj hdj']
      refine I.post val (fun _ _ => rfl) j hj hp fun o' ho' => ?_
      rw [← hwj o' ho']
      refine wanted_same (by rw [putAll_size, putAll_size]) ?_
      exact agree_walk F rfl (u := val) (u' := val) hj (Nat.le_refl _) (Nat.le_of_lt hj) (Nat.le_of_lt hj) (Nat.le_refl _) ho' fun _ _ => rfl
    rw [← ha1] at hw
    have := wpAny_of_seq (md := .any) (Q' := Q) (l.drop n) n listed a1 w1 (fun j => by simp [List.getElem?_drop]) (by rw [List.length_drop, hlisted]; exact hseq) hw
    rwa [List.length_drop] at this
end Go.SqR
end
/- top: the least tree: plain laws; what the closure of Best needs and knows. -/
section
namespace Go.Top
open Go.RowKit Go.Own
theorem apart_of {ws cs : List Nat} (hp : Proper ws cs) : Apart ws cs (List.range ws.length) := by
  intro i hi j hj hij
  have hi' := List.mem_range.1 hi
  have hj' := List.mem_range.1 hj
  have hne : ws[i] ≠ ws[j] := by
    intro e
    rcases Nat.lt_or_gt_of_ne hij with h | h
    · exact List.pairwise_iff_getElem.1 hp.nodup i j hi' hj' h e
    · exact List.pairwise_iff_getElem.1 hp.nodup j i hj' hi' h e.symm
  rcases Classical.em (∃ k < cs.length, hasQ ws k i ≠ hasQ ws k j) with h | h
  · exact h
  · exfalso
    apply hne
    apply Nat.eq_of_testBit_eq
    intro k
    by_cases hk : k < cs.length
    · have : hasQ ws k i = hasQ ws k j := Classical.byContradiction fun e => h ⟨k, hk, e⟩
      unfold hasQ at this
      rw [List.getD_eq_getElem?_getD, List.getD_eq_getElem?_getD, List.getElem?_eq_getElem hi', List.getElem?_eq_getElem hj'] at this
      exact this
    · have h1 := hp.lt _ (List.getElem_mem hi')
      have h2 := hp.lt _ (List.getElem_mem hj')
      have hle : 2 ^ cs.length ≤ 2 ^ k := Nat.pow_le_pow_right (by decide) (by omega)
      rw [Nat.testBit_lt_two_pow (Nat.lt_of_lt_of_le h1 hle), Nat.testBit_lt_two_pow (Nat.lt_of_lt_of_le h2 hle)]
theorem foldl_congr {α β : Type} {f g : β → α → β} : ∀ (l : List α) (b : β), (∀ b, ∀ x ∈ l, f b x = g b x) → l.foldl f b = l.foldl g b
  | [], b, _ => rfl
  | x :: l, b, h => by
    rw [List.foldl_cons, List.foldl_cons, h b x (List.mem_cons_self ..)]
    exact foldl_congr l _ fun b y hy => h b y (List.mem_cons_of_mem _ hy)
theorem tryQ_congr {ws cs : List Nat} {f g : List Nat → Option (Tr × Nat)} {l : List Nat} {k : Nat} {out : Option (Tr × Nat)} (h : ∀ m : List Nat, m.length < l.length → f m = g m) : tryQ ws cs f l out k = tryQ ws cs g l out k := by
  unfold tryQ
  split
  · rfl
  · rename_i hs
    have h1 : yesL ws k l ≠ [] := fun e => hs (.inl e)
    have h2 : noL ws k l ≠ [] := fun e => hs (.inr e)
    have p1 := List.length_pos_iff.2 h1
    have p2 := List.length_pos_iff.2 h2
    have := split_len ws k l
    rw [h _ (by omega), h _ (by omega)]
theorem bestT_fuel {ws cs : List Nat} : ∀ (f : Nat) (l : List Nat), l.length ≤ f → bestT ws cs (f + 1) l = bestT ws cs f l
  | 0, l, h => by
    obtain rfl := List.eq_nil_of_length_eq_zero (by omega : l.length = 0)
    rfl
  | f + 1, l, h => by
    match l, h with
    | [], _ => rfl
    | [i], _ => rfl
    | i :: j :: m, h =>
      show (List.range cs.length).foldl (tryQ ws cs (bestT ws cs (f + 1)) (i :: j :: m)) none = (List.range cs.length).foldl (tryQ ws cs (bestT ws cs f) (i :: j :: m)) none
      exact foldl_congr _ _ fun b x _ => tryQ_congr fun m' hm' => bestT_fuel f m' (by omega)
/-- The least tree of some of at most 8 worlds. -/
def BQ (ws cs l : List Nat) : Option (Tr × Nat) := bestT ws cs 8 l
theorem BQ_one (ws cs : List Nat) (i : Nat) : BQ ws cs [i] = some (.leaf i, 0) := rfl
/-- The better one of the first j questions. -/
def foldB (ws cs l : List Nat) (j : Nat) : Option (Tr × Nat) := (List.range j).foldl (tryQ ws cs (BQ ws cs) l) none
theorem foldB_zero (ws cs l : List Nat) : foldB ws cs l 0 = none := rfl
theorem foldB_succ (ws cs l : List Nat) (j : Nat) : foldB ws cs l (j + 1) = tryQ ws cs (BQ ws cs) l (foldB ws cs l j) j := by
  unfold foldB
  rw [List.range_succ, List.foldl_append]
  rfl
theorem BQ_more {ws cs l : List Nat} (h1 : 1 < l.length) (h8 : l.length ≤ 8) : BQ ws cs l = foldB ws cs l cs.length := by
  match l, h1 with
  | i :: j :: m, _ =>
    show (List.range cs.length).foldl (tryQ ws cs (bestT ws cs 7) (i :: j :: m)) none = (List.range cs.length).foldl (tryQ ws cs (bestT ws cs 8) (i :: j :: m)) none
    exact foldl_congr _ _ fun b x _ => tryQ_congr fun m' hm' => (bestT_fuel 7 m' (by omega)).symm
theorem BQ_some {ws cs l : List Nat} (hp : Proper ws cs) (h0 : l ≠ []) (hn : l.Nodup) (hl : ∀ i ∈ l, i < ws.length) (h8 : l.length ≤ 8) : ∃ t c, BQ ws cs l = some (t, c) ∧ folT ws cs t l = some c :=
  (best_ok ws cs 8 l h8 h0 hn ((apart_of hp).sub fun i hi => List.mem_range.2 (hl i hi))).is
theorem els_nodup (n S : Nat) : (elsN n S).Nodup := List.nodup_range.filter _
theorem els_lt {n S i : Nat} (h : i ∈ elsN n S) : i < n := List.mem_range.1 (List.mem_filter.1 h).1
theorem els_len (n S : Nat) : (elsN n S).length ≤ n := by
  unfold elsN
  have := List.length_filter_le (fun i => S.testBit i) (List.range n)
  rwa [List.length_range] at this
theorem els_mem {n S i : Nat} : i ∈ elsN n S ↔ i < n ∧ S.testBit i = true := by
  unfold elsN
  rw [List.mem_filter, List.mem_range]
theorem mask_lt {n : Nat} {l : List Nat} (h : ∀ i ∈ l, i < n) : maskL l < 2 ^ n := by
  apply Nat.lt_pow_two_of_testBit
  intro i hi
  rw [mask_bit]
  exact decide_eq_false fun hm => by have := h i hm; omega
theorem mask_els {n S : Nat} (h : S < 2 ^ n) : maskL (elsN n S) = S := by
  apply Nat.eq_of_testBit_eq
  intro i
  rw [mask_bit]
  by_cases hi : i < n
  · cases hb : S.testBit i with
    | true => exact decide_eq_true (els_mem.2 ⟨hi, hb⟩)
    | false => exact decide_eq_false fun hm => by rw [(els_mem.1 hm).2] at hb; cases hb
  · rw [Nat.testBit_lt_two_pow (Nat.lt_of_lt_of_le h (Nat.pow_le_pow_right (by decide) (by omega)))]
    exact decide_eq_false fun hm => hi (els_mem.1 hm).1
/-- The other part, as a number. -/
theorem diff_no {ws : List Nat} {n S k : Nat} (h : S < 2 ^ n) (h63 : S < 9223372036854775808) : Go.Ib.diff S (maskL (yesL ws k (elsN n S))) = maskL (noL ws k (elsN n S)) := by
  apply Nat.eq_of_testBit_eq
  intro i
  rw [Go.Ib.diff_bit _ _ _ h63, mask_bit, mask_bit]
  have hS : S.testBit i = decide (i ∈ elsN n S) := by rw [← mask_bit, mask_els h]
  rw [hS]
  unfold noL yesL
  by_cases hi : i ∈ elsN n S
  · cases hq : hasQ ws k i <;> simp [hi, hq]
  · simp [hi]
theorem els_no {ws : List Nat} (n S k : Nat) : elsN n (maskL (noL ws k (elsN n S))) = noL ws k (elsN n S) := els_filter n S _
theorem els_yes {ws : List Nat} (n S k : Nat) : elsN n (maskL (yesL ws k (elsN n S))) = yesL ws k (elsN n S) := els_filter n S _
theorem mask_zero {l : List Nat} : maskL l = 0 ↔ l = [] := by
  constructor
  · intro h
    rw [List.eq_nil_iff_forall_not_mem]
    intro i hi
    have := mask_bit l i
    rw [h, Nat.zero_testBit, decide_eq_true hi] at this
    cases this
  · rintro rfl; rfl
theorem mask_yes_all {ws : List Nat} {n S k : Nat} (h : S < 2 ^ n) : maskL (yesL ws k (elsN n S)) = S ↔ noL ws k (elsN n S) = [] := by
  constructor
  · intro e
    rw [List.eq_nil_iff_forall_not_mem]
    intro i hi
    have h1 := (List.mem_filter.1 hi)
    have h2 : i ∈ yesL ws k (elsN n S) := (mask_inj (e.trans (mask_els h).symm) i).2 h1.1
    have h3 := (List.mem_filter.1 h2).2
    have h4 := h1.2
    rw [h3] at h4
    cases h4
  · intro e
    have : yesL ws k (elsN n S) = elsN n S := by
      unfold yesL
      rw [List.filter_eq_self]
      intro i hi
      cases hq : hasQ ws k i with
      | true => rfl
      | false =>
        have : i ∈ noL ws k (elsN n S) := List.mem_filter.2 ⟨hi, by rw [hq]; rfl⟩
        rw [e] at this
        cases this
    rw [this, mask_els h]
end Go.Top
end
/- top: what the closure of Best needs and knows, in memory; the closure at a set that is known. -/
section
namespace Go.Proofs.YtkccmpikeekceaaGreat
open Go.RowKit Go.Own Go.Theory Go.BigFrame Go.Shelf Go.Top
theorem chg_cell {F : List Nat} {w w' : World} {p : Addr} {v : Value} (h : Chg F w w') (hc : w.cell? p = some v) (hp : p.block ∉ F) : w'.cell? p = some v :=
  (World.cell?_of_block (w := w) (h.block _ (World.block_lt_of_cell? _ _ hc) hp)).trans hc
abbrev tP : TypeId := 82
abbrev nd (b : Nat) : Value := .pointer (some ⟨b, 0, none⟩)
theorem hTknown : Tryz.prog.underlying 79 = some (.map 3 82) := by kernel_rfl
theorem hKint : Tryz.prog.underlying 3 = some (.int .i64) := by kernel_rfl
theorem zeroP (w : World) : (zeroValue 82).run Tryz.prog w = .ok (.agg #[.pointer none, .int .i64 0]) w := by kernel_rfl
theorem infoP : (Tryz.prog.info? 82).map (·.size) = some 2 := by kernel_rfl
theorem aggP : (match Tryz.prog.underlying 82 with | some (.struct _) | some (.array _ _) => true | _ => false) = true := by kernel_rfl
theorem mapK {w : World} {K : Nat} {f : Int → Option Value} (h : MapV w K f) {g : Nat} {l : List Value} {t : TypeId} (hB : Blk w g l t) : g ≠ K := by
  rintro rfl
  obtain ⟨m, ⟨es, clock, h1, _⟩, _⟩ := h
  unfold Blk at hB
  rw [h1] at hB
  cases hB
/-- Trees stay where only the map changes. -/
theorem tr_chg {w w' : World} {K : Nat} {f : Int → Option Value} (hm : MapV w K f) (hc : Chg [K] w w') {v : Value} {t : Tr} (h : TrAt tT w v t) : TrAt tT w' v t :=
  h.keep fun b l _ hB => hB.chg hc (by have := mapK hm hB; simpa using this)
theorem blk_inj {w : World} {g : Nat} {l l' : List Value} {t t' : TypeId} (h : Blk w g l t) (h' : Blk w g l' t') : l = l' := by
  unfold Blk at h h'
  rw [h] at h'
  have h1 := Option.some.inj h'
  injection h1 with h2
  have := congrArg Array.toList h2
  simpa using this
/-- Trees stay where a block of two cells is written. -/
theorem tr_oth {w w' : World} {g : Nat} {l : List Value} {t' : TypeId} (hB : Blk w g l t') (hl : l.length = 2) (ho : Oth g w w') {v : Value} {t : Tr} (h : TrAt tT w v t) : TrAt tT w' v t :=
  h.keep fun b l' h4 hB' => ho.blk (by rintro rfl; have := blk_inj hB hB'; rw [this] at hl; omega) hB'
/-- What is known is right. -/
def KnM (w : World) (K : Nat) (ws cs : List Nat) : Prop := ∃ f, MapV w K f ∧ ∀ k v, f k = some v → ∃ (S : Nat) (t : Tr) (c b : Nat), k = S ∧ BQ ws cs (elsN ws.length S) = some (t, c) ∧ v = .agg #[nd b, .int .i64 (c : Int)] ∧ TrAt tT w (nd b) t
theorem KnM.lt {w : World} {K : Nat} {ws cs : List Nat} (h : KnM w K ws cs) : K < w.heap.size := by obtain ⟨f, h1, _⟩ := h; exact h1.lt
theorem KnM.below {w w' : World} {K : Nat} {ws cs : List Nat} (h : KnM w K ws cs) (hb : Below w.heap.size w w') : KnM w' K ws cs := by
  obtain ⟨f, h1, h2⟩ := h
  refine ⟨f, h1.below hb, fun k v hv => ?_⟩
  obtain ⟨S, t, c, b, h3, h4, h5, h6⟩ := h2 k v hv
  exact ⟨S, t, c, b, h3, h4, h5, h6.below hb⟩
theorem KnM.ne {w : World} {K g : Nat} {ws cs : List Nat} {l : List Value} {t : TypeId} (h : KnM w K ws cs) (hB : Blk w g l t) : g ≠ K := by obtain ⟨f, h1, _⟩ := h; exact mapK h1 hB
theorem KnM.oth {w w' : World} {K g : Nat} {ws cs : List Nat} {l : List Value} {t : TypeId} (h : KnM w K ws cs) (hB : Blk w g l t) (hl : l.length = 2) (ho : Oth g w w') : KnM w' K ws cs := by
  have hne := h.ne hB
  obtain ⟨f, h1, h2⟩ := h
  refine ⟨f, h1.chg (Chg.of_oth ho (F := [g]) (by simp)) (by simp; exact fun e => hne e.symm), fun k v hv => ?_⟩
  obtain ⟨S, t, c, b, h3, h4, h5, h6⟩ := h2 k v hv
  exact ⟨S, t, c, b, h3, h4, h5, tr_oth hB hl ho h6⟩
def bdv (gk gw gc gb : Nat) : Value := .func (.func 24) #[] #[nd gk, nd gw, nd gc, nd gb]
/-- What the closure needs, and what stays. -/
structure BdS (V : World) (ws cs : List Nat) (sa : Option Addr) (ca : Nat) (sb : Option Addr) (cb gw gc K gk gb : Nat) : Prop where
  sw : Sl V 1 (.slice sa ws.length ca) ws.length (nvs ws)
  sc : Sl V 1 (.slice sb cs.length cb) cs.length (nvs cs)
  cw : V.cell? ⟨gw, 0, none⟩ = some (.slice sa ws.length ca)
  cc : V.cell? ⟨gc, 0, none⟩ = some (.slice sb cs.length cb)
  vK : V.heap.size ≤ K
  vk : V.heap.size ≤ gk
  vb : V.heap.size ≤ gb
  n1 : gk ≠ K
  n2 : gb ≠ K
  pr : Proper ws cs
/-- What is known now. -/
structure BdW (V w : World) (ws cs : List Nat) (gw gc K gk gb : Nat) : Prop where
  below : Below V.heap.size V w
  ck : w.cell? ⟨gk, 0, none⟩ = some (.map (some K))
  cb : w.cell? ⟨gb, 0, none⟩ = some (bdv gk gw gc gb)
  kn : KnM w K ws cs
theorem BdW.low {V w w' : World} {ws cs : List Nat} {gw gc K gk gb : Nat} (h : BdW V w ws cs gw gc K gk gb) (hb : Below w.heap.size w w') : BdW V w' ws cs gw gc K gk gb :=
  ⟨h.below.trans (hb.mono h.below.size), (hb.cell (p := ⟨gk, 0, none⟩) (World.block_lt_of_cell? _ _ h.ck)).trans h.ck, (hb.cell (p := ⟨gb, 0, none⟩) (World.block_lt_of_cell? _ _ h.cb)).trans h.cb, h.kn.below hb⟩
/-- Worlds that differ in what is known. -/
structure ExtK (K : Nat) (ws cs : List Nat) (w w' : World) : Prop where
  chg : Chg [K] w w'
  kn : KnM w K ws cs → KnM w' K ws cs
theorem ExtK.refl (K : Nat) (ws cs : List Nat) (w : World) : ExtK K ws cs w w := ⟨Chg.refl _ _, id⟩
theorem ExtK.trans (K : Nat) (ws cs : List Nat) (a b c : World) (h : ExtK K ws cs a b) (h' : ExtK K ws cs b c) : ExtK K ws cs a c := ⟨h.chg.trans h'.chg, fun x => h'.kn (h.kn x)⟩
theorem ExtK.of {K : Nat} {ws cs : List Nat} {w w' : World} (h : Below w.heap.size w w') : ExtK K ws cs w w' := ⟨Chg.of_below h, fun x => x.below h⟩
theorem ExtK.tr {K : Nat} {ws cs : List Nat} {w w' : World} (h : ExtK K ws cs w w') (hk : KnM w K ws cs) {v : Value} {t : Tr} (ht : TrAt tT w v t) : TrAt tT w' v t := by
  obtain ⟨f, h1, _⟩ := hk
  exact tr_chg h1 h.chg ht
theorem BdW.ext {V w w' : World} {ws cs : List Nat} {sa : Option Addr} {ca : Nat} {sb : Option Addr} {cb gw gc K gk gb : Nat} (S : BdS V ws cs sa ca sb cb gw gc K gk gb) (h : BdW V w ws cs gw gc K gk gb) (hb : ExtK K ws cs w w') : BdW V w' ws cs gw gc K gk gb :=
  ⟨h.below.trans (hb.chg.below h.below.size (by have := S.vK; simpa using this)), chg_cell hb.chg h.ck (by have := S.n1; simpa using this), chg_cell hb.chg h.cb (by have := S.n2; simpa using this), hb.kn h.kn⟩
structure BdQ (V : World) (ws cs : List Nat) (gw gc K gk gb m : Nat) (w : World) (e : Ending) (w' : World) : Prop where
  val : ∃ t c b, BQ ws cs (elsN ws.length m) = some (t, c) ∧ e = .returned (.agg #[nd b, .int .i64 (c : Int)]) ∧ TrAt tT w' (nd b) t
  ext : ExtK K ws cs w w'
  st' : BdW V w' ws cs gw gc K gk gb
theorem lookK {w : World} {K : Nat} {f : Int → Option Value} (h : MapV w K f) (k : Int) : (Instr.lookup 79 (.map (some K)) (.int .i64 k) true).run Tryz.prog w = .ok (.tuple #[(f k).getD (.agg #[.pointer none, .int .i64 0]), .bool (f k).isSome]) w := by
  have := h.look (P := Tryz.prog) hTknown hKint (zeroP w) k true
  rw [this]; rfl
set_option maxRecDepth 100000 in
set_option maxHeartbeats 3200000 in
theorem of_met {V : World} {ws cs : List Nat} {sa : Option Addr} {ca : Nat} {sb : Option Addr} {cb gw gc K gk gb : Nat} (_S : BdS V ws cs sa ca sb cb gw gc K gk gb) (m : Nat) (w : World) (hw : BdW V w ws cs gw gc K gk gb)
    (f : Int → Option Value) (hf : MapV w K f) (t : Tr) (c b : Nat) (hbq : BQ ws cs (elsN ws.length m) = some (t, c)) (hT : TrAt tT w (nd b) t) (hv : f m = some (.agg #[nd b, .int .i64 (c : Int)])) :
    Calls Tryz.prog 24 #[.int .i64 (m : Int), nd gk, nd gw, nd gc, nd gb] w fun e w' => BdQ V ws cs gw gc K gk gb m w e w' := by
  obtain ⟨W0, hW0⟩ : ∃ W0, W0 = w.alloc (.cells #[.pointer none, .int .i64 0] tP) := ⟨_, rfl⟩
  have z0 : W0.heap.size = w.heap.size + 1 := by rw [hW0]; exact alloc_size _ _
  have b0 : Below w.heap.size w W0 := by rw [hW0]; exact alloc_below _ _
  have hgk : W0.cell? ⟨gk, 0, none⟩ = some (.map (some K)) := (hw.low b0).ck
  have hl := lookK (hf.below b0) (m : Int)
  rw [hv] at hl
  simp only [Option.getD_some, Option.isSome_some] at hl
  have hr0 : Blk W0 w.heap.size [.pointer none, .int .i64 0] tP := by rw [hW0]; exact Blk.new w #[.pointer none, .int .i64 0] tP
  rw [hW0] at hgk hl
  have HT := Lib.hid hT; clear hT
  have HW := Lib.hid hw; clear hw hf hv z0 _S b0
  have HBQ := Lib.hid hbq; clear hbq hr0 hW0
  go_enter Tryz.func24, Tryz.ntmps24
  go_wp2
  obtain ⟨U0, hU0⟩ : ∃ U0, U0 = w.alloc (.cells #[nd b, .int .i64 (c : Int)] tP) := ⟨_, rfl⟩
  obtain ⟨U1, hU1⟩ : ∃ U1, U1 = U0.alloc (.cells #[nd b, .int .i64 (c : Int)] tP) := ⟨_, rfl⟩
  rw [← hU0, ← hU1]
  have b0 : Below w.heap.size w U0 := by rw [hU0]; exact alloc_below _ _
  have b1 : Below U0.heap.size U0 U1 := by rw [hU1]; exact alloc_below _ _
  have k0 : Blk U0 w.heap.size [nd b, .int .i64 (c : Int)] tP := by rw [hU0]; exact Blk.new w #[nd b, .int .i64 (c : Int)] tP
  have k1 := k0.below b1 k0.lt
  have b2 := b0.trans (b1.mono b0.size)
  refine bodyPost_ret (results_blk rfl k1 rfl rfl (by kernel_rfl) infoP) rfl ?_
  exact ⟨⟨t, c, b, HBQ.out, rfl, HT.out.below b2⟩, ExtK.of b2, HW.out.low b2⟩
end Go.Proofs.YtkccmpikeekceaaGreat
end
