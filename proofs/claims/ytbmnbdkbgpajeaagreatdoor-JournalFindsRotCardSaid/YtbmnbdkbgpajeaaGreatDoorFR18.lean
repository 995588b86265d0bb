/- journal: slices.Contains and Clone at rows of numbers and of texts. -/
import Derived.Test.YtbmnbdkbgpajeaaGreatDoorFR17
/- journal: slices.Contains and Clone at rows of numbers and of texts. -/
section
namespace Go.Jn
open Go.RowKit Go.Own Go.Disk
theorem recV_none {x : Prt} {r : List Prt} (h : (recV (x :: r)).2.2 = false) : recAt (x :: r) = none := by
  unfold recV at h
  cases e : recAt (x :: r) with
  | none => rfl
  | some q => rw [e] at h; cases h
theorem recV_some {x : Prt} {r : List Prt} (h : (recV (x :: r)).2.2 = true) : recAt (x :: r) = some ((recV (x :: r)).1, (recV (x :: r)).2.1) := by
  unfold recV at h ⊢
  cases e : recAt (x :: r) with
  | none => rw [e] at h; cases h
  | some q => rfl
theorem recV_n {x : Prt} {r : List Prt} (hx : x.l ≤ 8000) (h : (recV (x :: r)).2.2 = true) : 1 ≤ (recV (x :: r)).2.1 ∧ (recV (x :: r)).2.1 ≤ (x :: r).length := by
  rw [recV_eq] at h ⊢
  split at h
  · rename_i hc
    rw [if_pos hc]
    exact ⟨(cntN_pos hx).1, hc.2.2.1⟩
  · cases h
end Go.Jn
namespace Go.Proofs.YtbmnbdkbgpajeaaGreatDoor
open Go.RowKit Go.Own Go.Jn Go.Disk Go.BigFrame Go.Sha Go.Shelf
theorem contains_any (l : List Nat) (x : Nat) (v : Value) (w : World) (h : Sl w 1 v l.length (intsV l)) (hl : l.length ≤ 1000000) :
    Calls Tryz.prog 51 #[v, .int .i64 x] w fun e w' => e = .returned (.bool (l.contains x)) ∧ w' = w := by
  obtain ⟨hlen, ⟨rfl, h0⟩ | ⟨b, off, cap, rfl, h1, h2, hC, hlt⟩⟩ := h
  · obtain rfl := List.length_eq_zero_iff.1 h0
    exact (Any.slices_Contains_int_empty Tryz.lays107 none 0 x w)
  · refine (Any.slices_Contains_int Tryz.lays107 b off l.length cap (l.map fun n : Nat => (n : Int)) x w (by simp) (by omega) (fun j hj => ?_)).mono ?_
    · rw [List.length_map] at hj
      refine hC j _ ?_
      unfold intsV
      simp [hj]
    · rintro e w' ⟨rfl, rfl⟩
      refine ⟨?_, rfl⟩
      congr 2
      rw [List.take_of_length_le (by simp), Bool.eq_iff_iff, List.contains_iff_mem, List.contains_iff_mem, List.mem_map]
      constructor
      · rintro ⟨a, h1, h2⟩; rwa [show a = x by omega] at h1
      · intro h; exact ⟨x, h, rfl⟩
end Go.Proofs.YtbmnbdkbgpajeaaGreatDoor
end
/- A region that draws its order, with one edge more: a move that no one waits for may as well come early. -/
section
namespace Go.Own.SqE
open Go.RowKit Go.Own
/-- Operation k waits for operation i as well. -/
def addE (l : List Oper) (k i : Nat) : List Oper := l.set k { (l.getD k default) with after := (l.getD k default).after.push { on := i, ground := .data } }
def moveB (o : Oper) (d s : Nat) : Bool := (match o.op with | .move (.tmp t) => t == s | _ => false) && (o.dst == some d) && o.after.all fun e => !Region.binds .any e
/-- Operation i is a move from s to d that waits for no one; no other operation writes s or d; who looks at d waits for i. -/
def addB (l : List Oper) (k i d s : Nat) : Bool :=
  decide (i ≠ k) && decide (k < l.length) && decide (d ≠ s) && Region.noSelect l.toArray && (match l[i]? with | some o => moveB o d s | none => false) &&
  ((List.range l.length).all fun j => match l[j]? with
    | some o => o.guard.isNone && (j == i || (o.dst != some d && o.dst != some s && (o.looksAt l.toArray).all fun t => t != d || waitsB o i))
    | none => true)
structure AddF (l : List Oper) (k i d s : Nat) : Prop where
  ne : i ≠ k
  lt : k < l.length
  ds : d ≠ s
  sel : ∀ (j : Nat) (o : Oper) cs b, l[j]? = some o → o.op ≠ .select cs b
  mv : ∃ o, l[i]? = some o ∧ o.op = .move (.tmp s) ∧ o.dst = some d ∧ ∀ e ∈ o.after, Region.binds .any e = false
  guard : ∀ (j : Nat) (o : Oper), l[j]? = some o → o.guard = none
  dst : ∀ (j : Nat) (o : Oper), l[j]? = some o → j ≠ i → o.dst ≠ some d ∧ o.dst ≠ some s
  looks : ∀ (j : Nat) (o : Oper), l[j]? = some o → j ≠ i → d ∈ o.looksAt l.toArray → waitsB o i = true
theorem noSelect_spec {l : List Oper} (h : Region.noSelect l.toArray = true) (j : Nat) (o : Oper) (cs b) (ho : l[j]? = some o) : o.op ≠ .select cs b := by
  exact Region.noSelect_spec h j o cs b (by simpa using ho)
theorem addF_of {l : List Oper} {k i d s : Nat} (h : addB l k i d s = true) : AddF l k i d s := by
  simp only [addB, Bool.and_eq_true, decide_eq_true_eq, List.all_eq_true, List.mem_range] at h
  obtain ⟨⟨⟨⟨⟨h1, h2⟩, h3⟩, h4⟩, h5⟩, h6⟩ := h
  have key : ∀ (j : Nat) (o : Oper), l[j]? = some o → o.guard.isNone = true ∧ (j = i ∨ ((o.dst != some d) = true ∧ (o.dst != some s) = true ∧ ∀ t ∈ o.looksAt l.toArray, t ≠ d ∨ waitsB o i = true)) := fun j o ho => by
    have hj : j < l.length := (List.getElem?_eq_some_iff.1 ho).1
    have := h6 j hj
    rw [ho] at this
    simp only [Bool.and_eq_true, Bool.or_eq_true, beq_iff_eq, List.all_eq_true, bne_iff_ne] at this ⊢
    refine ⟨this.1, this.2.imp id fun h => ⟨h.1.1, h.1.2, h.2⟩⟩
  refine ⟨h1, h2, h3, fun j o cs b ho => noSelect_spec h4 j o cs b ho, ?_, fun j o ho => by simpa using (key j o ho).1, fun j o ho hj => ?_, fun j o ho hj hd => ?_⟩
  · cases ho : l[i]? with
    | none => rw [ho] at h5; cases h5
    | some o =>
      rw [ho] at h5
      simp only [moveB, Bool.and_eq_true, beq_iff_eq, Array.all_eq_true] at h5
      refine ⟨o, rfl, ?_, h5.1.2, fun e he => ?_⟩
      · have := h5.1.1
        split at this
        · rename_i t ht
          rw [ht]
          simp only [beq_iff_eq] at this
          rw [this]
        · cases this
      · obtain ⟨n, hn, rfl⟩ := Array.getElem_of_mem he
        have := h5.2 n hn
        simpa using this
  · have := (key j o ho).2.resolve_left hj
    exact ⟨by simpa using this.1, by simpa using this.2.1⟩
  · exact ((key j o ho).2.resolve_left hj).2.2 d hd |>.resolve_left fun h => h rfl
section
variable {P : Program} {l : List Oper} {k i d s : Nat}
theorem addE_len : (addE l k i).length = l.length := by unfold addE; simp
theorem addE_ne {j : Nat} (h : j ≠ k) : (addE l k i)[j]? = l[j]? := by unfold addE; rw [List.getElem?_set_ne (fun e => h e.symm)]
theorem addE_at (F : AddF l k i d s) : (addE l k i)[k]? = some { l[k]'F.lt with after := (l[k]'F.lt).after.push { on := i, ground := .data } } := by
  unfold addE
  rw [List.getElem?_set_self F.lt, List.getD_eq_getElem?_getD, List.getElem?_eq_getElem F.lt]
  rfl
/-- The operations of the two regions differ in what they wait for alone. -/
theorem addE_op (F : AddF l k i d s) {j : Nat} {o : Oper} (ho : l[j]? = some o) : ∃ A, (addE l k i)[j]? = some { o with after := A } := by
  by_cases h : j = k
  · subst h
    obtain ⟨h1, h2⟩ := List.getElem?_eq_some_iff.1 ho
    exact ⟨_, by rw [addE_at F, h2]⟩
  · exact ⟨o.after, by rw [addE_ne h, ho]⟩
theorem ready_mem {ops : List Oper} {L : Array Bool} {j : Nat} : j ∈ Region.ready .any ops.toArray L ↔ ∃ o, ops[j]? = some o ∧ L.getD j true = false ∧ ∀ e ∈ o.after, Region.binds .any e = true → L.getD e.on false = true := by
  unfold Region.ready
  simp only [List.mem_filter, List.mem_range, List.size_toArray, Bool.and_eq_true, Bool.not_eq_true', List.getElem?_toArray]
  constructor
  · rintro ⟨h1, h2, h3⟩
    refine ⟨ops[j], List.getElem?_eq_getElem h1, h2, fun e he hb => ?_⟩
    rw [List.getElem?_eq_getElem h1] at h3
    simp only [Option.map_some, Option.getD_some, Array.all_eq_true] at h3
    obtain ⟨n, hn, rfl⟩ := Array.getElem_of_mem he
    have := h3 n hn
    rw [hb] at this
    simpa using this
  · rintro ⟨o, h1, h2, h3⟩
    obtain ⟨hj, hjo⟩ := List.getElem?_eq_some_iff.1 h1
    refine ⟨hj, h2, ?_⟩
    rw [h1]
    simp only [Option.map_some, Option.getD_some, Array.all_eq_true]
    intro n hn
    cases hb : Region.binds .any o.after[n] with
    | false => rfl
    | true => simp [h3 _ (Array.getElem_mem hn) hb]
/-- Where i is listed both regions are ready alike. -/
theorem ready_same (F : AddF l k i d s) {L : Array Bool} (hi : L.getD i false = true) (j : Nat) : j ∈ Region.ready .any l.toArray L ↔ j ∈ Region.ready .any (addE l k i).toArray L := by
  rw [ready_mem, ready_mem]
  by_cases h : j = k
  · subst h
    rw [addE_at F, List.getElem?_eq_getElem F.lt]
    constructor
    · rintro ⟨o, h1, h2, h3⟩
      injection h1 with h1
      subst h1
      refine ⟨_, rfl, h2, fun e he hb => ?_⟩
      rcases Array.mem_push.1 he with he | rfl
      · exact h3 e he hb
      · exact hi
    · rintro ⟨o, h1, h2, h3⟩
      injection h1 with h1
      subst h1
      exact ⟨_, rfl, h2, fun e he hb => h3 e (Array.mem_push.2 (.inl he)) hb⟩
  · rw [addE_ne h]
theorem ready_i (F : AddF l k i d s) {L : Array Bool} (hu : L.getD i true = false) : i ∈ Region.ready .any (addE l k i).toArray L := by
  obtain ⟨o, ho, _, _, hb⟩ := F.mv
  exact ready_mem.2 ⟨o, by rw [addE_ne F.ne, ho], hu, fun e he h => by rw [hb e he] at h; cases h⟩
theorem ready_no (_F : AddF l k i d s) {L : Array Bool} (hu : L.getD i true = false) {j : Nat} {o : Oper} (ho : l[j]? = some o) (hj : j ∈ Region.ready .any l.toArray L) : waitsB o i = false := by
  obtain ⟨o', ho', _, h3⟩ := ready_mem.1 hj
  obtain rfl : o = o' := Option.some.inj (ho.symm.trans ho')
  cases hw : waitsB o i with
  | false => rfl
  | true =>
    unfold waitsB at hw
    obtain ⟨e, he, h4⟩ := Array.any_eq_true'.1 hw
    simp only [Bool.and_eq_true, beq_iff_eq] at h4
    have := h3 e he h4.1
    rw [h4.2] at this
    rw [getD_both hu] at this
    cases this
theorem put_comm (a : Act) {d : Nat} {v : Value} {x : Option Tmp} (y : Value) (h : x ≠ some d) : (a.put (some d) v).put x y = (a.put x y).put (some d) v := by
  cases x with
  | none => rfl
  | some t =>
    have : d ≠ t := fun e => h (by rw [e])
    simp only [Act.put]
    rw [Array.setIfInBounds_comm _ _ this]
theorem put_eval (a : Act) {s : Nat} {x : Option Tmp} (y : Value) (h : x ≠ some s) : (a.put x y).tmps.getD s undef = a.tmps.getD s undef := by
  cases x with
  | none => rfl
  | some t =>
    have : t ≠ s := fun e => h (by rw [e])
    simp only [Act.put, Array.getD_eq_getD_getElem?, Array.getElem?_setIfInBounds_ne this]
theorem put_look (a : Act) {d t : Nat} {v : Value} (h : t ≠ d) : (a.put (some d) v).tmps.getD t undef = a.tmps.getD t undef := put_eval a v (fun e => h (by injection e with e; exact e.symm))
/-- One operation that does not look at d, in a frame with d and in one without. -/
theorem wp_without {o : Oper} {a : Act} {w : World} {v : Value} {d s : Nat} {Q : Exit → Act → World → Prop} {K K' : Act → World → Prop} (hQ : ∀ X a w, Q X a w → X = .normal) (he : execOp (a.put (some d) v).eval o = execOp a.eval o) (hd : o.dst ≠ some d) (hs : o.dst ≠ some s)
    (hv : v = a.tmps.getD s undef) (hK : ∀ a1 w1, v = a1.tmps.getD s undef → K' (a1.put (some d) v) w1 → K a1 w1) (h : o.wp P (a.put (some d) v) w K' Q) : o.wp P a w K Q := by
  have hn : ∀ (a1 : Act) (x : Value) w1, a1.tmps = a.tmps → K' ((a1.put (some d) v).put o.dst x) w1 → K (a1.put o.dst x) w1 := fun a1 x w1 e h => by
    rw [put_comm a1 x hd] at h
    exact hK _ _ (by rw [put_eval a1 x hs, e, hv]) h
  unfold Oper.wp at h ⊢
  rw [he] at h
  generalize (execOp a.eval o).run P w = r at *
  cases r with
  | ok n w' =>
    cases n with
    | value x => exact hn a x _ rfl h
    | skip => exact hn a _ _ rfl h
    | defer D => exact hn { a with defers := D :: a.defers } _ _ rfl h
    | enter f args =>
      refine Calls.mono h fun e w'' hh => ?_
      cases e with
      | returned x => exact hn a x _ rfl hh
      | panicked c => exact absurd (hQ _ _ _ hh) (by intro e; cases e)
      | outgrown => exact hh
    | row q args => exact Rows.mono h fun x w'' hh => hn a x _ rfl hh
    | _ => exact h
  | halt x w' =>
    cases x with
    | panic v => exact absurd (hQ _ _ _ h) (by intro e; cases e)
    | _ => exact h
theorem left_of {Q : Exit → Act → World → Prop} (hQ : ∀ X a w, Q X a w → X = .normal) {A B : Prop} (h : A ∨ (B ∧ LetsOut Q)) : A := by
  rcases h with h | ⟨_, a, w, h⟩
  · exact h
  · have := hQ _ _ _ h; cases this
theorem wanted_free {o : Oper} (h : o.guard = none) (y) : Region.wanted o y = true := by unfold Region.wanted; simp only [h]
theorem getD_set_other {L : Array Bool} {i j : Nat} {b : Bool} (h : j ≠ i) : (L.setIfInBounds j true).getD i b = L.getD i b := by
  rw [Array.getD_eq_getD_getElem?, Array.getD_eq_getD_getElem?, Array.getElem?_setIfInBounds_ne h]
theorem set_true_comm (L : Array Bool) (i j : Nat) : (L.setIfInBounds i true).setIfInBounds j true = (L.setIfInBounds j true).setIfInBounds i true := by
  by_cases h : i = j
  · rw [h]
  · exact Array.setIfInBounds_comm _ _ h
theorem getD_set_self {L : Array Bool} {i : Nat} {b : Bool} (h : L.getD i true = false) : (L.setIfInBounds i true).getD i b = true := by
  rcases Nat.lt_or_ge i L.size with h' | h'
  · simp [h']
  · simp [Array.getElem?_eq_none h'] at h
theorem move_run {o : Oper} {x : Operand} (h : o.op = .move x) {ρ : Operand → Value} {w : World} : (execOp ρ o).run P w = .ok (.value (ρ x)) w := by
  obtain ⟨dst, op, type, pos, after, guard⟩ := o
  subst h
  rfl
/-- Where i is listed on both sides. -/
theorem same (F : AddF l k i d s) {Q : Exit → Act → World → Prop} (hQ : ∀ X a w, Q X a w → X = .normal) : ∀ (f : Nat) (L : Array Bool) (a : Act) (w : World), L.getD i false = true → wpAny P .any (addE l k i).toArray Q f L a w → wpAny P .any l.toArray Q f L a w
  | 0, L, a, w, hi, h => by
    refine ⟨?_, h.2⟩
    rw [List.eq_nil_iff_forall_not_mem]
    intro m hm
    have := (ready_same F hi m).1 hm
    rw [h.1] at this
    cases this
  | f + 1, L, a, w, hi, h => by
    refine ⟨fun he => h.1 ?_, fun j hj => ?_⟩
    · rw [List.eq_nil_iff_forall_not_mem]
      intro m hm
      have := (ready_same F hi m).2 hm
      rw [he] at this
      cases this
    · obtain ⟨oj, hoj, _, _⟩ := ready_mem.1 hj
      have h5 := h.2 j ((ready_same F hi j).1 hj)
      obtain ⟨A, hA⟩ := addE_op F hoj
      unfold wpOp at h5 ⊢
      rw [List.getElem?_toArray] at h5 ⊢
      rw [hA] at h5
      rw [hoj]
      simp only at h5 ⊢
      rw [if_pos (wanted_free (o := { oj with after := A }) (F.guard j oj hoj) _)] at h5
      rw [if_pos (wanted_free (F.guard j oj hoj) _)]
      left
      have h6 : oj.wp P a w _ Q := left_of hQ h5
      refine Oper.wp_mono (fun a' w' hk => same F hQ f _ a' w' ?_ hk) h6
      rcases Nat.decEq j i with hne | rfl
      · rw [getD_set_other hne]; exact hi
      · rcases Nat.lt_or_ge j L.size with h' | h'
        · simp [h']
        · simp [Array.getElem?_eq_none h'] at hi
/-- i is out of the way on the one side, and still to come on the other. -/
theorem later (F : AddF l k i d s) {Q : Exit → Act → World → Prop} (hQ : ∀ X a w, Q X a w → X = .normal) : ∀ (f : Nat) (L : Array Bool) (a : Act) (w : World) (v : Value), v = a.tmps.getD s undef → L.getD i true = false →
    wpAny P .any (addE l k i).toArray Q f (L.setIfInBounds i true) (a.put (some d) v) w → wpAny P .any l.toArray Q (f + 1) L a w := by
  intro f
  induction f with
  | zero =>
    intro L a w v hv hu h
    refine ⟨fun he => ?_, fun j hj => ?_⟩
    · obtain ⟨o, ho, _, _, hb⟩ := F.mv
      have : i ∈ Region.ready .any l.toArray L := ready_mem.2 ⟨o, ho, hu, fun e he h => by rw [hb e he] at h; cases h⟩
      rw [he] at this
      cases this
    · obtain ⟨oj, hoj, hju, h3⟩ := ready_mem.1 hj
      by_cases hji : j = i
      · subst hji
        obtain ⟨o, ho, hop, hod, hb⟩ := F.mv
        obtain rfl : oj = o := Option.some.inj (hoj.symm.trans ho)
        have hLi : (L.setIfInBounds j true).getD j false = true := getD_set_self hu
        unfold wpOp
        rw [List.getElem?_toArray, hoj]
        simp only
        rw [if_pos (wanted_free (F.guard j oj hoj) _)]
        left
        unfold Oper.wp
        rw [move_run hop]
        simp only [Oper.upon, hod]
        rw [Act.eval, ← hv]
        refine ⟨?_, h.2⟩
        rw [List.eq_nil_iff_forall_not_mem]
        intro m hm
        have := (ready_same F hLi m).1 hm
        rw [h.1] at this
        cases this
      · exfalso
        have hLi : (L.setIfInBounds i true).getD i false = true := getD_set_self hu
        have : j ∈ Region.ready .any (addE l k i).toArray (L.setIfInBounds i true) := by
          rw [← ready_same F hLi]
          refine ready_mem.2 ⟨oj, hoj, by rw [getD_set_other (fun e => hji e.symm)]; exact hju, fun e he hb => ?_⟩
          have h4 := h3 e he hb
          by_cases hei : e.on = i
          · rw [hei]; exact hLi
          · rw [getD_set_other (fun e' => hei e'.symm)]; exact h4
        rw [h.1] at this
        cases this
  | succ f ih =>
    intro L a w v hv hu h
    have hLi : (L.setIfInBounds i true).getD i false = true := getD_set_self hu
    refine ⟨fun he => ?_, fun j hj => ?_⟩
    · obtain ⟨o, ho, _, _, hb⟩ := F.mv
      have : i ∈ Region.ready .any l.toArray L := ready_mem.2 ⟨o, ho, hu, fun e he h => by rw [hb e he] at h; cases h⟩
      rw [he] at this
      cases this
    · obtain ⟨oj, hoj, hju, h3⟩ := ready_mem.1 hj
      by_cases hji : j = i
      · subst hji
        obtain ⟨o, ho, hop, hod, hb⟩ := F.mv
        obtain rfl : oj = o := Option.some.inj (hoj.symm.trans ho)
        unfold wpOp
        rw [List.getElem?_toArray, hoj]
        simp only
        rw [if_pos (wanted_free (F.guard j oj hoj) _)]
        left
        unfold Oper.wp
        rw [move_run hop]
        simp only [Oper.upon, hod]
        rw [Act.eval, ← hv]
        exact same F hQ _ _ _ _ hLi h
      · have hj' : j ∈ Region.ready .any (addE l k i).toArray (L.setIfInBounds i true) := by
          rw [← ready_same F hLi]
          refine ready_mem.2 ⟨oj, hoj, by rw [getD_set_other (fun e => hji e.symm)]; exact hju, fun e he hb => ?_⟩
          have h4 := h3 e he hb
          by_cases hei : e.on = i
          · rw [hei]; exact hLi
          · rw [getD_set_other (fun e' => hei e'.symm)]; exact h4
        have h5 := h.2 j hj'
        obtain ⟨A, hA⟩ := addE_op F hoj
        unfold wpOp at h5 ⊢
        rw [List.getElem?_toArray] at h5 ⊢
        rw [hA] at h5
        rw [hoj]
        simp only at h5 ⊢
        rw [if_pos (wanted_free (o := { oj with after := A }) (F.guard j oj hoj) _)] at h5
        rw [if_pos (wanted_free (F.guard j oj hoj) _)]
        left
        have h6 : oj.wp P (a.put (some d) v) w _ Q := left_of hQ h5
        have hno := ready_no F hu hoj hj
        have hlk : ∀ t, t ∈ oj.looksAt l.toArray → (a.put (some d) v).tmps.getD t undef = a.tmps.getD t undef := fun t ht => put_look a fun e => by
          subst e
          have := F.looks j oj hoj hji ht
          rw [hno] at this
          cases this
        have hex := exec_same (ops := l.toArray) (o := oj) (b := a.put (some d) v) (b' := a) (fun cs b => F.sel j oj cs b hoj) hlk
        refine wp_without (v := v) (s := s) (d := d) hQ hex (F.dst j oj hoj hji).1 (F.dst j oj hoj hji).2 hv (fun a1 w1 hv1 h7 => ?_) h6
        refine ih _ a1 w1 v hv1 (by rw [getD_set_other hji]; exact hu) ?_
        rw [set_true_comm]
        exact h7
/-- The region with the edge serves the region without. -/
theorem add_any (F : AddF l k i d s) {Q : Exit → Act → World → Prop} (hQ : ∀ X a w, Q X a w → X = .normal) (f : Nat) (L : Array Bool) (a : Act) (w : World) (hu : L.getD i true = false)
    (h : wpAny P .any (addE l k i).toArray Q f L a w) : wpAny P .any l.toArray Q f L a w := by
  cases f with
  | zero =>
    have := ready_i F hu
    rw [h.1] at this
    cases this
  | succ f =>
    have h1 := h.2 i (ready_i F hu)
    obtain ⟨o, ho, hop, hod, hb⟩ := F.mv
    unfold wpOp at h1
    rw [List.getElem?_toArray, addE_ne F.ne, ho] at h1
    simp only at h1
    rw [if_pos (wanted_free (F.guard i o ho) _)] at h1
    have h2 := left_of hQ h1
    unfold Oper.wp at h2
    rw [move_run hop] at h2
    simp only [Oper.upon, hod] at h2
    exact later F hQ f L a w _ rfl hu h2
/-- A region that ends, and does not panic. -/
def Nrm (Q : Exit → Act → World → Prop) (X : Exit) (a : Act) (w : World) : Prop := X = .normal ∧ Q X a w
theorem nrm {Q : Exit → Act → World → Prop} {a : Act} {w : World} (h : Q .normal a w) : Nrm Q .normal a w := ⟨rfl, h⟩
/-- A region that draws its order, told with one edge more. -/
theorem wp_region_sqE {id : Nat} {Q : Exit → Act → World → Prop} {a : Act} {w : World} (k i d s : Nat) (l' : List Oper) (hl' : addE l k i = l') (n : Nat) (ps : List Nat) (Ext : World → World → Prop) (Post : Nat → Value → World → Prop) (hm : P.follows .mixedOrders = true)
    (hp : addB l k i d s = true) (hB : sqB l' n a.tmps.size ps = true) (hrefl : ∀ w, Ext w w) (htrans : ∀ a b c, Ext a b → Ext b c → Ext a c) (stable : ∀ i v w w', Post i v w → Ext w w' → Post i v w')
    (h : SqW P l' ps Ext w.drew Post (fun a' => ∀ w', Ext w.drew w' → (∀ j d, j < n → ps.contains j = true → (l'[j]?).bind (·.dst) = some d → (∀ o', l'[j]? = some o' → Region.wanted o' (yielded l'.toArray a'.tmps) = true) → Post j (a'.tmps.getD d undef) w') →
      wpList P l'.toArray (Nrm Q) (l'.drop n) a' w') 0 (l'.take n) a) : (Code.region id l.toArray true).wp P Q a w := by
  have F := addF_of hp
  refine Code.wp_mono (Q := Nrm Q) (fun _ _ _ h => h.2) (wp_region_any hm ?_)
  have h1 := SqP.any_sq (Q := Nrm Q) n ps Ext Post hB hrefl htrans stable h
  subst hl'
  have hlen : (addE l k i).toArray.size = l.toArray.size := by simp [addE_len]
  rw [hlen] at h1
  refine add_any F (fun _ _ _ h => h.1) _ _ _ _ ?_ h1
  obtain ⟨o, ho, _⟩ := F.mv
  exact getD_in (by simpa using (List.getElem?_eq_some_iff.1 ho).1) (getD_replicate_false _ _)
end
end Go.Own.SqE
end
/- journal: two rows grow in one statement. -/
section
namespace Go.Proofs.YtbmnbdkbgpajeaaGreatDoor
open Go.RowKit Go.Own Go.Jn Go.Disk Go.BigFrame Go.Sha
/-- the rows that a statement with two appends keeps -/
def goodA (m : Nat) (X : List Value) (u : Value) (Y : List Value) (y : Value) (e : TypeId) (size k : Nat) (Z : List Value) : Prop :=
  (e = 3 ∧ size = 1 ∧ (k = 1 ∧ Z = [u] ∨ k = m ∧ Z = X ∨ k = m + 1 ∧ Z = X ++ [u])) ∨ (e = 9 ∧ size = 1 ∧ (k = 1 ∧ Z = [y] ∨ k = m ∧ Z = Y ∨ k = m + 1 ∧ Z = Y ++ [y]))
theorem goodA_size {m : Nat} {X : List Value} {u : Value} {Y : List Value} {y : Value} {e : TypeId} {size k : Nat} {Z : List Value} (h : goodA m X u Y y e size k Z) : size = 1 := by
  rcases h with ⟨_, h, _⟩ | ⟨_, h, _⟩ <;> exact h
theorem last_of {m : Nat} {X : List Value} {u : Value} (hX : X.length = m) {k : Nat} {Z : List Value} (h : k = 1 ∧ Z = [u] ∨ k = m ∧ Z = X ∨ k = m + 1 ∧ Z = X ++ [u]) : ∀ z, Z[m]? = some z → z = u := fun z hz => by
  rcases h with ⟨_, rfl⟩ | ⟨_, rfl⟩ | ⟨_, rfl⟩
  · have := (List.getElem?_eq_some_iff.1 hz).1
    have h0 : m = 0 := by simpa using this
    subst h0
    simpa using hz.symm
  · rw [List.getElem?_eq_none (by omega)] at hz; cases hz
  · rw [List.getElem?_append_right (by omega), hX, Nat.sub_self] at hz
    simpa using hz.symm
theorem goodA_int {m : Nat} {X : List Value} {u : Value} {Y : List Value} {y : Value} (hX : X.length = m) : ∀ k Z, goodA m X u Y y 3 1 k Z → ∀ z, Z[m]? = some z → z = u := fun k Z h => by
  rcases h with ⟨_, _, h⟩ | ⟨h, _⟩
  · exact last_of hX h
  · exact absurd h (by decide)
theorem goodA_str {m : Nat} {X : List Value} {u : Value} {Y : List Value} {y : Value} (hY : Y.length = m) : ∀ k Z, goodA m X u Y y 9 1 k Z → ∀ z, Z[m]? = some z → z = y := fun k Z h => by
  rcases h with ⟨h, _⟩ | ⟨_, _, h⟩
  · exact absurd h (by decide)
  · exact last_of hY h
/-- the blocks that two appends may write -/
def ownF (a b : Value) : List Nat := a.ownBlock.toList ++ b.ownBlock.toList
theorem ownF_l {a b : Value} {k : Nat} (h : a.ownBlock = some k) : k ∈ ownF a b := by simp [ownF, h]
theorem ownF_r {a b : Value} {k : Nat} (h : b.ownBlock = some k) : k ∈ ownF a b := by simp [ownF, h]
theorem own_cell1 {w : World} {base : Nat} {e : TypeId} {b c : Nat} {u : Value} (h : w.ownsRow base e 1 (.slice (some ⟨b, 0, none⟩) 1 c) 1 [u]) : w.cell? ⟨b, 0, none⟩ = some u := by
  obtain ⟨g, cap, sp, hv, _, _, _, hB⟩ := own_blk h (by decide)
  injection hv with hv
  injection hv with hv
  injection hv with hv
  subst hv
  exact hB.cell rfl
theorem buildOne_exec {o : Oper} {ρ : Operand → Value} {e : TypeId} {v : Value} {W : World} (h : (execOp ρ o).run Tryz.prog W = .ok (.value (.slice (some ⟨W.heap.size, 0, none⟩) 1 1)) (W.alloc (.cells #[v] e))) {R : Value → World → Prop} {F : List Nat} {good : TypeId → Nat → Nat → List Value → Prop} {B : Nat} (hB : B ≤ W.heap.size)
    (hR : ∀ b W', W.heap.size ≤ b → W'.ownsRow B e 1 (.slice (some ⟨b, 0, none⟩) 1 1) 1 [v] → ExtA F B good W W' → R (.slice (some ⟨b, 0, none⟩) 1 1) W') : Own.Yields Tryz.prog o ρ W R :=
  yields_value h (hR _ _ (Nat.le_refl _) (own_new W #[v] e 1 B rfl (by decide) hB) (ExtA.of (alloc_below _ _)))
end Go.Proofs.YtbmnbdkbgpajeaaGreatDoor
end
