/- The region lemma SqC inside a round of a range over a function. -/
import Derived.Test.YtnkinjilnccmfaaSqC
import Derived.RegionIn
import Derived.RangeFuncNested
import Derived.RangeFuncCalls
namespace Go.SqC
open Go.RowKit Go.Own
section
variable {P : Program} {l : List Oper} {ps : List Nat} {Ext : World → Prop}
theorem wide_fn (f : FuncId) : Fence.wide.fn f = True := rfl
theorem wide_round_fn (r : Nat) (f : FuncId) : (Fence.wide.inRound r).fn f = True := rfl
/-- No operation is a defer statement. -/
def noDefer (ops : Array Oper) : Bool := ops.all fun o => match o.op with | .defer _ => false | _ => true
theorem noDefer_at {ops : Array Oper} (h : noDefer ops = true) {i : Nat} {o : Oper} (ho : ops[i]? = some o) : ∀ c, o.op ≠ .defer c := by
  intro c e
  unfold noDefer at h
  obtain ⟨hi, rfl⟩ := Array.getElem?_eq_some_iff.1 ho
  have := Array.all_eq_true.1 h i hi
  rw [e] at this
  cases this
theorem rowsIn_wide {n : Nat} {row : String} {args : Array Value} {w : World} {R : Value → World → Prop} (h : Rows P row args w R) (r : Nat) : RowsIn (Fence.wide.inRound r) n P row args w R :=
  fun c cs _ => let ⟨v, w', q, s⟩ := h c cs; ⟨v, w', q, stepsIn_wide.2 s⟩
theorem operIn_of {n r : Nat} {o : Oper} {a : Act} {w : World} {K K' : Act → World → Prop} {Q : Exit → Act → World → Prop} (hd : ∀ c, o.op ≠ .defer c) (hQ : ¬ LetsOut Q) (hK : ∀ a w, K a w → K' a w) (h : o.wp P a w K Q) : o.wpIn (Fence.wide.inRound r) n P a w K' Q := by
  unfold Oper.wpIn
  refine ⟨fun _ _ => trivial, ?_⟩
  rw [Oper.semAt_eq _ _ _ hd]
  unfold Oper.wp at h
  generalize (execOp a.eval o).run P w = x at h ⊢
  cases x with
  | halt x w1 => cases x <;> exact h
  | ok nx w1 =>
    cases nx <;> first | exact hK _ _ h | exact h.elim | skip
    case enter f args =>
      refine ⟨fun hh => by simp [Fence.wide] at hh, ?_⟩
      refine CallsIn.inRound r (callsIn_wide.2 (Calls.mono h ?_))
      intro e w'' h
      cases e with
      | returned v => exact hK _ _ h
      | panicked c => exact h
      | outgrown => exact h
    case row rr args =>
      refine ⟨fun hh => by simp [Fence.wide] at hh, ?_⟩
      exact rowsIn_wide (Rows.mono h fun v w' h => hK _ _ h) r
theorem wpAnyIn_of {n r : Nat} {md : Region.Mode} {ops : Array Oper} {Q : Exit → Act → World → Prop} (hd : noDefer ops = true) (hQ : ¬ LetsOut Q) : ∀ (f : Nat) (listed : Array Bool) (a : Act) (w : World), wpAny P md ops Q f listed a w → wpAnyIn (Fence.wide.inRound r) n P md ops Q f listed a w
  | 0, _, _, _, h => h
  | f + 1, listed, a, w, h => by
    refine ⟨h.1, fun i hi => ?_⟩
    have h2 := h.2 i hi
    unfold wpOp at h2
    unfold wpOpIn
    cases ho : ops[i]? with
    | none => rw [ho] at h2; exact wpAnyIn_of hd hQ f _ _ _ h2
    | some o =>
      rw [ho] at h2
      by_cases hw : Region.wanted o (yielded ops a.tmps) = true
      · simp only [hw, if_true] at h2 ⊢
        rcases h2 with h2 | h2
        · exact operIn_of (noDefer_at hd ho) hQ (fun a w h => wpAnyIn_of hd hQ f _ _ _ h) h2
        · exact absurd h2.2 hQ
      · simp only [hw] at h2 ⊢
        exact ⟨fun _ _ => trivial, wpAnyIn_of hd hQ f _ _ _ h2⟩
/-- Every order of a region comes to the walk's end. -/
def onlyN (Q : Exit → Act → World → Prop) : Exit → Act → World → Prop | .normal, a, w => Q .normal a w | _, _, _ => False
theorem onlyN_out (Q : Exit → Act → World → Prop) : ¬ LetsOut (onlyN Q) := fun ⟨_, _, h⟩ => h
theorem wpIn_region_sqc {id m r : Nat} {Q : Exit → Act → World → Prop} {a : Act} {w : World} (n : Nat) (ps : List Nat) (Ext : World → Prop) (hm : P.follows .mixedOrders = true) (hnd : noDefer l.toArray = true) (hn : l.length = n) (hB : sqcB l a.tmps.size ps = true) (hext : Ext w.drew)
    (h : SqW P l ps Ext (fun a' w' => Q .normal a' w') 0 l a w.drew) : (Code.region id l.toArray true).wpIn (Fence.wide.inRound r) m P Q a w := by
  simp only [sqcB, Bool.and_eq_true] at hB
  obtain ⟨⟨⟨⟨⟨⟨hsel, he⟩, hd⟩, hl⟩, _⟩, hc⟩, hsk⟩ := hB
  have F := sqFc_of hsel he hd hl hc hsk
  have inv0 : HeadInv .any l.toArray l.length (Array.replicate l.toArray.size false) :=
    ⟨by simp, fun j oj _ hl => (by rw [getD_replicate_false] at hl; cases hl), fun t _ h' => getD_in (by simpa using h') (getD_replicate_false _ _)⟩
  have hno : ∀ j, ¬ (j < l.length ∧ (Array.replicate l.toArray.size false).getD j false = true) := fun j hj => by have := hj.2; rw [getD_replicate_false] at this; cases this
  refine wpIn_mono (Q := onlyN Q) ?_ fun e a w h => by cases e <;> first | exact h | exact h.elim
  refine wpIn_region_any hm ?_
  refine wpAnyIn_of hnd (onlyN_out Q) _ _ _ _ ?_
  have hseq : Region.seqB .any l.toArray 0 l.length ((List.replicate l.length true).toArray) = true := by
    simp only [Region.seqB, List.isEmpty_iff]
    unfold Region.ready
    rw [List.filter_eq_nil_iff]
    intro i hi
    have hi' : i < l.length := by simpa using hi
    simp [hi']
  have H := sqc_any (Q := onlyN Q) (Fin := fun a' w' => Q .normal a' w') F rfl he (fun listed a1 w1 val hsz h1 I fr => ?_) l.length (Array.replicate l.toArray.size false) a w.drew (fun _ => undef) inv0
    ⟨.inl hext, fun j hj => absurd hj (hno j), fun m o hm => absurd hm (hno m), fun u _ j hj => absurd hj (hno j), 0, fun _ => undef, Nat.zero_le _, fun j hj => absurd hj (Nat.not_lt_zero _), fun j hj => absurd hj (hno j), fun j hj => absurd hj (hno j), fun j hj => absurd hj (Nat.not_lt_zero _), h⟩
    ⟨rfl, rfl, fun _ _ => rfl, fun j o d hj => absurd hj (hno j)⟩ (by simp)
  · rw [show l.length = l.toArray.size by simp] at H
    exact H
  · have hlisted : listed = (List.replicate l.length true).toArray := by
      apply Array.ext
      · simp [hsz]
      · intro i hi1 hi2
        have := h1 i (by omega)
        simp only [Array.getD_eq_getD_getElem?, Array.getElem?_eq_getElem hi1, Option.getD_some] at this
        rw [this]
        simp
    obtain ⟨p, hp, hpe, hpl, hsim⟩ := I.sim F rfl
    obtain ⟨u, w', hu, hc', hfin, _, hsame⟩ := hsim (l.length - p) (by omega)
    rw [show p + (l.length - p) = l.length by omega, List.drop_length] at hfin
    have hsame' : w' = w1 := hsame fun j h2 h3 => by
      cases hb : ps.contains j with
      | false => rfl
      | true => have := hpl j (by omega) hb; omega
    subst hsame'
    unfold SqW at hfin
    have ha1 : a1 = putAll l a u l.length := by
      have ht : a1.tmps = (putAll l a u l.length).tmps := by
        refine getD_ext (by rw [putAll_size, fr.size]) fun t ht => ?_
        by_cases hx : ∃ (i : Nat) (o : Oper), l[i]? = some o ∧ o.dst = some t
        · obtain ⟨i, o, ho, hot⟩ := hx
          have hi := (List.getElem?_eq_some_iff.1 ho).1
          rw [slot_at F rfl u hi ho hot, fr.slot i o t hi ho hot, hu i hi]
        · have hno : ∀ (i : Nat) (o : Oper), l[i]? = some o → o.dst ≠ some t := fun i o ho hot => hx ⟨i, o, ho, hot⟩
          rw [slot_other u fun i o _ ho => hno i o ho]
          exact fr.other t hno
      have hdf : a1.defers = (putAll l a u l.length).defers := by rw [putAll_defers, fr.defers]
      cases a1
      cases hp : putAll l a u l.length
      rw [hp] at ht hdf
      simp only at ht hdf
      rw [ht, hdf]
    rw [← ha1] at hfin
    have := wpAny_of_seq (md := .any) (Q' := onlyN Q) (P := P) (ops := l.toArray) [] l.length listed a1 w' (fun j => by simp) (by rw [hlisted]; exact hseq) hfin
    exact this
theorem wpListIn_of {n r : Nat} {ops : Array Oper} {Q : Exit → Act → World → Prop} (hQ : ¬ LetsOut Q) : ∀ (rest : List Oper), (∀ o ∈ rest, ∀ c, o.op ≠ .defer c) → ∀ (a : Act) (w : World), wpList P ops Q rest a w → wpListIn (Fence.wide.inRound r) n P ops Q rest a w
  | [], _, _, _, h => h
  | o :: rest, hd, a, w, h => by
    unfold wpList at h
    unfold wpListIn
    by_cases hw : Region.wanted o (yielded ops a.tmps) = true
    · simp only [hw, if_true] at h ⊢
      rcases h with h | h
      · exact operIn_of (hd o List.mem_cons_self) hQ (fun a w h => wpListIn_of hQ rest (fun o ho => hd o (List.mem_cons_of_mem _ ho)) a w h) h
      · exact absurd h.2 hQ
    · simp only [hw] at h ⊢
      exact ⟨fun _ _ => trivial, wpListIn_of hQ rest (fun o ho => hd o (List.mem_cons_of_mem _ ho)) _ _ h⟩
theorem operIn_only {n r : Nat} {o : Oper} {a : Act} {w : World} {K K' : Act → World → Prop} {Q : Exit → Act → World → Prop} (hd : ∀ c, o.op ≠ .defer c) (hK : ∀ a w, K a w → K' a w) (h : o.wp P a w K (onlyN Q)) : o.wpIn (Fence.wide.inRound r) n P a w K' Q := by
  unfold Oper.wpIn
  refine ⟨fun _ _ => trivial, ?_⟩
  rw [Oper.semAt_eq _ _ _ hd]
  unfold Oper.wp at h
  generalize (execOp a.eval o).run P w = x at h ⊢
  cases x with
  | halt x w1 => cases x <;> exact h.elim
  | ok nx w1 =>
    cases nx <;> first | exact hK _ _ h | exact h.elim | skip
    case enter f args =>
      refine ⟨fun hh => by simp [Fence.wide] at hh, ?_⟩
      refine CallsIn.inRound r (callsIn_wide.2 (Calls.mono h ?_))
      intro e w'' h
      cases e with
      | returned v => exact hK _ _ h
      | panicked c => exact h.elim
      | outgrown => exact absurd h (onlyN_out Q)
    case row rr args =>
      refine ⟨fun hh => by simp [Fence.wide] at hh, ?_⟩
      exact rowsIn_wide (Rows.mono h fun v w' h => hK _ _ h) r
/-- What is left of a region in the order of the text, walked outside the round. -/
theorem wpListIn_only {n r : Nat} {ops : Array Oper} {Q : Exit → Act → World → Prop} : ∀ (rest : List Oper), noDefer rest.toArray = true → ∀ (a : Act) (w : World), wpList P ops (onlyN Q) rest a w → wpListIn (Fence.wide.inRound r) n P ops Q rest a w
  | [], _, _, _, h => h
  | o :: rest, hd, a, w, h => by
    have hd0 : ∀ c, o.op ≠ .defer c := noDefer_at hd (i := 0) (by simp)
    have hd1 : noDefer rest.toArray = true := by
      unfold noDefer at hd ⊢
      simp only [List.all_toArray, List.all_cons, Bool.and_eq_true] at hd ⊢
      exact hd.2
    unfold wpList at h
    unfold wpListIn
    by_cases hw : Region.wanted o (yielded ops a.tmps) = true
    · simp only [hw, if_true] at h ⊢
      rcases h with h | h
      · exact operIn_only hd0 (fun a w h => wpListIn_only rest hd1 a w h) h
      · exact absurd h.2 (onlyN_out Q)
    · simp only [hw] at h ⊢
      exact ⟨fun _ _ => trivial, wpListIn_only rest hd1 _ _ h⟩
/-- A region in the order of the text, walked outside the round. -/
theorem wpIn_region_plain {id m r : Nat} {Q : Exit → Act → World → Prop} {a : Act} {w : World} (hnd : noDefer l.toArray = true) (h : wpList P l.toArray (onlyN Q) l a w) : (Code.region id l.toArray false).wpIn (Fence.wide.inRound r) m P Q a w := by
  refine wpIn_mono (Q := onlyN Q) ?_ fun e a w h => by cases e <;> first | exact h | exact h.elim
  refine wpIn_region_lit ?_
  refine wpListIn_of (onlyN_out Q) l (fun o ho => ?_) a w h
  obtain ⟨i, hi, rfl⟩ := List.getElem_of_mem ho
  exact noDefer_at hnd (i := i) (by simp [hi])
end
section
variable {P : Program} {l : List Oper}
/-- A quiet head of n operations, then a tail in one forced order. -/
theorem wpIn_region_tail {id m r : Nat} {Q : Exit → Act → World → Prop} {a : Act} {w : World} (n : Nat) (hm : P.follows .mixedOrders = true) (hnd : noDefer l.toArray = true)
    (hB : Region.lexTailB .any l.toArray n = true)
    (h0 : wpQuiet P l.toArray (fun w' => ∃ m, w' = w.drewN m) (fun a' => ∀ m, wpList P l.toArray (onlyN Q) (l.drop n) a' (w.drewN m)) (l.take n) a) : (Code.region id l.toArray true).wpIn (Fence.wide.inRound r) m P Q a w := by
  have e : (fun a' => ∀ m, wpList P l.toArray (onlyN Q) (l.drop n) a' (w.drewN m)) = (fun a' => ∀ w', (∃ m, w' = w.drewN m) → wpList P l.toArray (onlyN Q) (l.drop n) a' w') := by
    funext a'; exact propext ⟨fun h w' ⟨m, hw⟩ => hw ▸ h m, fun h m => h _ ⟨m, rfl⟩⟩
  rw [e] at h0
  simp only [Region.lexTailB, Bool.and_eq_true, decide_eq_true_eq] at hB
  obtain ⟨⟨⟨⟨hsel, hn⟩, hs⟩, hc⟩, hlex⟩ := hB
  have hn' : n < l.length := by simpa using hn
  have ht : (l.take n).length = n := by simp; omega
  have hd : (l.drop n).length = l.toArray.size - n := by simp
  have inv0 : HeadInv .any l.toArray n (Array.replicate l.toArray.size false) :=
    ⟨by simp, fun j oj _ hl => (by rw [getD_replicate_false] at hl; cases hl), fun t _ h' => getD_in (by simpa using h') (getD_replicate_false _ _)⟩
  have H := headAny_lex (md := .any) (g := l.toArray.size - n) hsel hs hc hn (l.take n) 0 _ a
    (fun j hj => by rw [ht] at hj; simp [hj]) (by simpa using ht) inv0 (by rw [ht]; exact hlex) h0
  refine wpIn_mono (Q := onlyN Q) ?_ fun e a w h => by cases e <;> first | exact h | exact h.elim
  refine wpIn_region_any hm ?_
  refine wpAnyIn_of hnd (onlyN_out Q) _ _ _ _ ?_
  have := any_of_headAny (Q := onlyN Q) (g := l.toArray.size - n) (fun listed a' w' hw' hL => by
    have := wpAny_of_seq (md := .any) (Q' := onlyN Q) (l.drop n) n listed a' w' (fun j => by simp [List.getElem?_drop]) (by rw [hd]; exact hL.1) (hL.2 w' hw')
    rwa [hd] at this) _ _ _ _ ⟨1, rfl⟩ H
  rw [ht, show n + (l.toArray.size - n) = l.toArray.size by omega] at this
  exact this
end
end Go.SqC
