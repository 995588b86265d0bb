/- The region lemma SqC inside a round of a range over a function. -/
import Derived.Test.YtbmnbdkbgpajeaaGreatDoorFR12
import Derived.RegionIn
import Derived.RangeFuncNested
import Derived.RangeFuncCalls
import Derived.Test.YtbmnbdkbgpajeaaGreatDoorFR04
import Derived.RangeFuncBound
import Derived.RangeFuncLeaves
import Derived.Shelf.Abstract
import Derived.WalkKit
import Derived.OwnWalkIn
import Derived.TacticsInMore
import Derived.LoopNIn
import Derived.LoopIn
import Derived.Test.YtbmnbdkbgpajeaaGreatDoorFR10
/- The region lemma SqC inside a round of a range over a function. -/
section
namespace Go.SqC
open Go.RowKit Go.Own
section
variable {P : Program} {l : List Oper} {ps : List Nat} {Ext : World → Prop}
theorem wide_fn (f : FuncId) : Fence.wide.fn f = True := rfl
theorem wide_round_fn (r : Nat) (f : FuncId) : (Fence.wide.inRound r).fn f = True := rfl
/-- No operation is a defer statement. -/
def noDefer (ops : Array Oper) : Bool := ops.all fun o => match o.op with | .defer _ => false | _ => true
theorem noDefer_at {ops : Array Oper} (h : noDefer ops = true) {i : Nat} {o : Oper} (ho : ops[i]? = some o) : ∀ c, o.op ≠ .defer c := by
  intro c e
  unfold noDefer at h
  obtain ⟨hi, rfl⟩ := Array.getElem?_eq_some_iff.1 ho
  have := Array.all_eq_true.1 h i hi
  rw [e] at this
  cases this
theorem rowsIn_wide {n : Nat} {row : String} {args : Array Value} {w : World} {R : Value → World → Prop} (h : Rows P row args w R) (r : Nat) : RowsIn (Fence.wide.inRound r) n P row args w R :=
  fun c cs _ => let ⟨v, w', q, s⟩ := h c cs; ⟨v, w', q, stepsIn_wide.2 s⟩
theorem operIn_of {n r : Nat} {o : Oper} {a : Act} {w : World} {K K' : Act → World → Prop} {Q : Exit → Act → World → Prop} (hd : ∀ c, o.op ≠ .defer c) (_hQ : ¬ LetsOut Q) (hK : ∀ a w, K a w → K' a w) (h : o.wp P a w K Q) : o.wpIn (Fence.wide.inRound r) n P a w K' Q := by
  unfold Oper.wpIn
  refine ⟨fun _ _ => trivial, ?_⟩
  rw [Oper.semAt_eq _ _ _ hd]
  unfold Oper.wp at h
  generalize (execOp a.eval o).run P w = x at h ⊢
  cases x with
  | halt x w1 => cases x <;> exact h
  | ok nx w1 =>
    cases nx <;> first | exact hK _ _ h | exact h.elim | skip
    case enter f args =>
      refine ⟨fun hh => by simp [Fence.wide] at hh, ?_⟩
      refine CallsIn.inRound r (callsIn_wide.2 (Calls.mono h ?_))
      intro e w'' h
      cases e with
      | returned v => exact hK _ _ h
      | panicked c => exact h
      | outgrown => exact h
    case row rr args =>
      refine ⟨fun hh => by simp [Fence.wide] at hh, ?_⟩
      exact rowsIn_wide (Rows.mono h fun v w' h => hK _ _ h) r
theorem wpAnyIn_of {n r : Nat} {md : Region.Mode} {ops : Array Oper} {Q : Exit → Act → World → Prop} (hd : noDefer ops = true) (hQ : ¬ LetsOut Q) : ∀ (f : Nat) (listed : Array Bool) (a : Act) (w : World), wpAny P md ops Q f listed a w → wpAnyIn (Fence.wide.inRound r) n P md ops Q f listed a w
  | 0, _, _, _, h => h
  | f + 1, listed, a, w, h => by
    refine ⟨h.1, fun i hi => ?_⟩
    have h2 := h.2 i hi
    unfold wpOp at h2
    unfold wpOpIn
    cases ho : ops[i]? with
    | none => rw [ho] at h2; exact wpAnyIn_of hd hQ f _ _ _ h2
    | some o =>
      rw [ho] at h2
      by_cases hw : Region.wanted o (yielded ops a.tmps) = true
      · simp only [hw, if_true] at h2 ⊢
        rcases h2 with h2 | h2
        · exact operIn_of (noDefer_at hd ho) hQ (fun a w h => wpAnyIn_of hd hQ f _ _ _ h) h2
        · exact absurd h2.2 hQ
      · simp only [hw] at h2 ⊢
        exact ⟨fun _ _ => trivial, wpAnyIn_of hd hQ f _ _ _ h2⟩
/-- Every order of a region comes to the walk's end. -/
def onlyN (Q : Exit → Act → World → Prop) : Exit → Act → World → Prop | .normal, a, w => Q .normal a w | _, _, _ => False
theorem onlyN_out (Q : Exit → Act → World → Prop) : ¬ LetsOut (onlyN Q) := fun ⟨_, _, h⟩ => h
theorem wpIn_region_sqc {id m r : Nat} {Q : Exit → Act → World → Prop} {a : Act} {w : World} (n : Nat) (ps : List Nat) (Ext : World → Prop) (hm : P.follows .mixedOrders = true) (hnd : noDefer l.toArray = true) (hn : l.length = n) (hB : sqcB l a.tmps.size ps = true) (hext : Ext w.drew)
    (h : SqW P l ps Ext (fun a' w' => Q .normal a' w') 0 l a w.drew) : (Code.region id l.toArray true).wpIn (Fence.wide.inRound r) m P Q a w := by
  simp only [sqcB, Bool.and_eq_true] at hB
  obtain ⟨⟨⟨⟨⟨⟨hsel, he⟩, hd⟩, hl⟩, _⟩, hc⟩, hsk⟩ := hB
  have F := sqFc_of hsel he hd hl hc hsk
  have inv0 : HeadInv .any l.toArray l.length (Array.replicate l.toArray.size false) :=
    ⟨by simp, fun j oj _ hl => (by rw [getD_replicate_false] at hl; cases hl), fun t _ h' => getD_in (by simpa using h') (getD_replicate_false _ _)⟩
  have hno : ∀ j, ¬ (j < l.length ∧ (Array.replicate l.toArray.size false).getD j false = true) := fun j hj => by have := hj.2; rw [getD_replicate_false] at this; cases this
  refine wpIn_mono (Q := onlyN Q) ?_ fun e a w h => by cases e <;> first | exact h | exact h.elim
  refine wpIn_region_any hm ?_
  refine wpAnyIn_of hnd (onlyN_out Q) _ _ _ _ ?_
  have hseq : Region.seqB .any l.toArray 0 l.length ((List.replicate l.length true).toArray) = true := by
    simp only [Region.seqB, List.isEmpty_iff]
    unfold Region.ready
    rw [List.filter_eq_nil_iff]
    intro i hi
    have hi' : i < l.length := by simpa using hi
    simp [hi']
  have H := sqc_any (Q := onlyN Q) (Fin := fun a' w' => Q .normal a' w') F rfl he (fun listed a1 w1 val hsz h1 I fr => ?_) l.length (Array.replicate l.toArray.size false) a w.drew (fun _ => undef) inv0
    ⟨.inl hext, fun j hj => absurd hj (hno j), fun m o hm => absurd hm (hno m), fun u _ j hj => absurd hj (hno j), 0, fun _ => undef, Nat.zero_le _, fun j hj => absurd hj (Nat.not_lt_zero _), fun j hj => absurd hj (hno j), fun j hj => absurd hj (hno j), fun j hj => absurd hj (Nat.not_lt_zero _), h⟩
    ⟨rfl, rfl, fun _ _ => rfl, fun j o d hj => absurd hj (hno j)⟩ (by simp)
  · rw [show l.length = l.toArray.size by simp] at H
    exact H
  · have hlisted : listed = (List.replicate l.length true).toArray := by
      apply Array.ext
      · simp [hsz]
      · intro i hi1 hi2
        have := h1 i (by omega)
        simp only [Array.getD_eq_getD_getElem?, Array.getElem?_eq_getElem hi1, Option.getD_some] at this
        rw [this]
        simp
    obtain ⟨p, hp, hpe, hpl, hsim⟩ := I.sim F rfl
    obtain ⟨u, w', hu, hc', hfin, _, hsame⟩ := hsim (l.length - p) (by omega)
    rw [show p + (l.length - p) = l.length by omega, List.drop_length] at hfin
    have hsame' : w' = w1 := hsame fun j h2 h3 => by
      cases hb : ps.contains j with
      | false => rfl
      | true => have := hpl j (by omega) hb; omega
    subst hsame'
    unfold SqW at hfin
    have ha1 : a1 = putAll l a u l.length := by
      have ht : a1.tmps = (putAll l a u l.length).tmps := by
        refine getD_ext (by rw [putAll_size, fr.size]) fun t ht => ?_
        by_cases hx : ∃ (i : Nat) (o : Oper), l[i]? = some o ∧ o.dst = some t
        · obtain ⟨i, o, ho, hot⟩ := hx
          have hi := (List.getElem?_eq_some_iff.1 ho).1
          rw [slot_at F rfl u hi ho hot, fr.slot i o t hi ho hot, hu i hi]
        · have hno : ∀ (i : Nat) (o : Oper), l[i]? = some o → o.dst ≠ some t := fun i o ho hot => hx ⟨i, o, ho, hot⟩
          rw [slot_other u fun i o _ ho => hno i o ho]
          exact fr.other t hno
      have hdf : a1.defers = (putAll l a u l.length).defers := by rw [putAll_defers, fr.defers]
      cases a1
      cases hp : putAll l a u l.length
      rw [hp] at ht hdf
      simp only at ht hdf
      rw [ht, hdf]
    rw [← ha1] at hfin
    have := wpAny_of_seq (md := .any) (Q' := onlyN Q) (P := P) (ops := l.toArray) [] l.length listed a1 w' (fun j => by simp) (by rw [hlisted]; exact hseq) hfin
    exact this
theorem wpListIn_of {n r : Nat} {ops : Array Oper} {Q : Exit → Act → World → Prop} (hQ : ¬ LetsOut Q) : ∀ (rest : List Oper), (∀ o ∈ rest, ∀ c, o.op ≠ .defer c) → ∀ (a : Act) (w : World), wpList P ops Q rest a w → wpListIn (Fence.wide.inRound r) n P ops Q rest a w
  | [], _, _, _, h => h
  | o :: rest, hd, a, w, h => by
    unfold wpList at h
    unfold wpListIn
    by_cases hw : Region.wanted o (yielded ops a.tmps) = true
    · simp only [hw, if_true] at h ⊢
      rcases h with h | h
      · exact operIn_of (hd o List.mem_cons_self) hQ (fun a w h => wpListIn_of hQ rest (fun o ho => hd o (List.mem_cons_of_mem _ ho)) a w h) h
      · exact absurd h.2 hQ
    · simp only [hw] at h ⊢
      exact ⟨fun _ _ => trivial, wpListIn_of hQ rest (fun o ho => hd o (List.mem_cons_of_mem _ ho)) _ _ h⟩
theorem operIn_only {n r : Nat} {o : Oper} {a : Act} {w : World} {K K' : Act → World → Prop} {Q : Exit → Act → World → Prop} (hd : ∀ c, o.op ≠ .defer c) (hK : ∀ a w, K a w → K' a w) (h : o.wp P a w K (onlyN Q)) : o.wpIn (Fence.wide.inRound r) n P a w K' Q := by
  unfold Oper.wpIn
  refine ⟨fun _ _ => trivial, ?_⟩
  rw [Oper.semAt_eq _ _ _ hd]
  unfold Oper.wp at h
  generalize (execOp a.eval o).run P w = x at h ⊢
  cases x with
  | halt x w1 => cases x <;> exact h.elim
  | ok nx w1 =>
    cases nx <;> first | exact hK _ _ h | exact h.elim | skip
    case enter f args =>
      refine ⟨fun hh => by simp [Fence.wide] at hh, ?_⟩
      refine CallsIn.inRound r (callsIn_wide.2 (Calls.mono h ?_))
      intro e w'' h
      cases e with
      | returned v => exact hK _ _ h
      | panicked c => exact h.elim
      | outgrown => exact absurd h (onlyN_out Q)
    case row rr args =>
      refine ⟨fun hh => by simp [Fence.wide] at hh, ?_⟩
      exact rowsIn_wide (Rows.mono h fun v w' h => hK _ _ h) r
/-- What is left of a region in the order of the text, walked outside the round. -/
theorem wpListIn_only {n r : Nat} {ops : Array Oper} {Q : Exit → Act → World → Prop} : ∀ (rest : List Oper), noDefer rest.toArray = true → ∀ (a : Act) (w : World), wpList P ops (onlyN Q) rest a w → wpListIn (Fence.wide.inRound r) n P ops Q rest a w
  | [], _, _, _, h => h
  | o :: rest, hd, a, w, h => by
    have hd0 : ∀ c, o.op ≠ .defer c := noDefer_at hd (i := 0) (by simp)
    have hd1 : noDefer rest.toArray = true := by
      unfold noDefer at hd ⊢
      simp only [List.all_toArray, List.all_cons, Bool.and_eq_true] at hd ⊢
      exact hd.2
    unfold wpList at h
    unfold wpListIn
    by_cases hw : Region.wanted o (yielded ops a.tmps) = true
    · simp only [hw, if_true] at h ⊢
      rcases h with h | h
      · exact operIn_only hd0 (fun a w h => wpListIn_only rest hd1 a w h) h
      · exact absurd h.2 (onlyN_out Q)
    · simp only [hw] at h ⊢
      exact ⟨fun _ _ => trivial, wpListIn_only rest hd1 _ _ h⟩
/-- A region in the order of the text, walked outside the round. -/
theorem wpIn_region_plain {id m r : Nat} {Q : Exit → Act → World → Prop} {a : Act} {w : World} (hnd : noDefer l.toArray = true) (h : wpList P l.toArray (onlyN Q) l a w) : (Code.region id l.toArray false).wpIn (Fence.wide.inRound r) m P Q a w := by
  refine wpIn_mono (Q := onlyN Q) ?_ fun e a w h => by cases e <;> first | exact h | exact h.elim
  refine wpIn_region_lit ?_
  refine wpListIn_of (onlyN_out Q) l (fun o ho => ?_) a w h
  obtain ⟨i, hi, rfl⟩ := List.getElem_of_mem ho
  exact noDefer_at hnd (i := i) (by simp [hi])
end
section
variable {P : Program} {l : List Oper}
/-- A quiet head of n operations, then a tail in one forced order. -/
theorem wpIn_region_tail {id m r : Nat} {Q : Exit → Act → World → Prop} {a : Act} {w : World} (n : Nat) (hm : P.follows .mixedOrders = true) (hnd : noDefer l.toArray = true)
    (hB : Region.lexTailB .any l.toArray n = true)
    (h0 : wpQuiet P l.toArray (fun w' => ∃ m, w' = w.drewN m) (fun a' => ∀ m, wpList P l.toArray (onlyN Q) (l.drop n) a' (w.drewN m)) (l.take n) a) : (Code.region id l.toArray true).wpIn (Fence.wide.inRound r) m P Q a w := by
  have e : (fun a' => ∀ m, wpList P l.toArray (onlyN Q) (l.drop n) a' (w.drewN m)) = (fun a' => ∀ w', (∃ m, w' = w.drewN m) → wpList P l.toArray (onlyN Q) (l.drop n) a' w') := by
    funext a'; exact propext ⟨fun h w' ⟨m, hw⟩ => hw ▸ h m, fun h m => h _ ⟨m, rfl⟩⟩
  rw [e] at h0
  simp only [Region.lexTailB, Bool.and_eq_true, decide_eq_true_eq] at hB
  obtain ⟨⟨⟨⟨hsel, hn⟩, hs⟩, hc⟩, hlex⟩ := hB
  have hn' : n < l.length := by simpa using hn
  have ht : (l.take n).length = n := by simp; omega
  have hd : (l.drop n).length = l.toArray.size - n := by simp
  have inv0 : HeadInv .any l.toArray n (Array.replicate l.toArray.size false) :=
    ⟨by simp, fun j oj _ hl => (by rw [getD_replicate_false] at hl; cases hl), fun t _ h' => getD_in (by simpa using h') (getD_replicate_false _ _)⟩
  have H := headAny_lex (md := .any) (g := l.toArray.size - n) hsel hs hc hn (l.take n) 0 _ a
    (fun j hj => by rw [ht] at hj; simp [hj]) (by simpa using ht) inv0 (by rw [ht]; exact hlex) h0
  refine wpIn_mono (Q := onlyN Q) ?_ fun e a w h => by cases e <;> first | exact h | exact h.elim
  refine wpIn_region_any hm ?_
  refine wpAnyIn_of hnd (onlyN_out Q) _ _ _ _ ?_
  have := any_of_headAny (Q := onlyN Q) (g := l.toArray.size - n) (fun listed a' w' hw' hL => by
    have := wpAny_of_seq (md := .any) (Q' := onlyN Q) (l.drop n) n listed a' w' (fun j => by simp [List.getElem?_drop]) (by rw [hd]; exact hL.1) (hL.2 w' hw')
    rwa [hd] at this) _ _ _ _ ⟨1, rfl⟩ H
  rw [ht, show n + (l.toArray.size - n) = l.toArray.size by omega] at this
  exact this
end
end Go.SqC
end
/- Helpers for a range over a function: blocks known whole as invariants; what a round keeps. -/
section
namespace Go.Own
open Go.RowKit
theorem Blk.kept {W W' : World} {g : Nat} {l : List Value} {t : TypeId} {row : Option Nat} (h : Blk W g l t) (hg : W.grownBy W' row) (hr : ∀ r, row = some r → ∃ o : Obj, W.heap[r]? = some o ∧ o.isCells = false) : Blk W' g l t := by
  unfold Blk at h ⊢
  rw [grownBy_keeps_cells hg hr h rfl]; exact h
theorem ownFrom_blk {β : Type} {B g : Nat} {l : β → List Value} {t : TypeId} : OwnFrom B (fun (s : β) W => Blk W g (l s) t) :=
  fun _ _ _ _ h hg hr => h.kept hg fun r e => (hr r e).2
theorem ownFrom_false {β : Type} {B : Nat} : OwnFrom B (fun (_ : β) _ => False) := fun _ _ _ _ h _ _ => h
theorem keepsOthers_drewN (W : World) (m : Nat) : KeepsOthers W (W.drewN m) := ⟨Nat.le_refl _, fun _ _ h _ => h⟩
/-- Blocks that the loops of an activation left behind for deferred calls: all are empty, each stands once. -/
def Marks (B : Nat) : List Deferred → World → Prop
  | [], _ => True
  | d :: ds, W => ∃ D, d.target = .collected D ∧ B ≤ D ∧ W.heap[D]? = some (.deferred (some [])) ∧ Marks B ds W ∧ ∀ d' ∈ ds, ∀ D', d'.target = .collected D' → D' < D
theorem Marks.mono {B : Nat} : ∀ {ds : List Deferred} {W W' : World}, Marks B ds W → (∀ D, B ≤ D → W.heap[D]? = some (.deferred (some [])) → W'.heap[D]? = some (.deferred (some []))) → Marks B ds W'
  | [], _, _, _, _ => trivial
  | _ :: _, _, _, ⟨D, h1, h2, h3, h4, h5⟩, h => ⟨D, h1, h2, h D h2 h3, h4.mono h, h5⟩
theorem Marks.lt {B : Nat} : ∀ {ds : List Deferred} {W : World}, Marks B ds W → ∀ d ∈ ds, ∀ D, d.target = .collected D → D < W.heap.size
  | [], _, _, d, h, _, _ => by cases h
  | d0 :: ds, W, ⟨D, h1, h2, h3, h4, h5⟩, d, h, D', e => by
    rcases List.mem_cons.1 h with rfl | h
    · rw [h1] at e; injection e with e; subst e
      exact (Array.getElem?_eq_some_iff.1 h3).1
    · exact h4.lt d h D' e
theorem Marks.cons {B D : Nat} {ds : List Deferred} {W0 W : World} (h0 : Marks B ds W0) (h : Marks B ds W) (hD : W0.heap.size ≤ D) (hB : B ≤ D) (hK : W.heap[D]? = some (.deferred (some []))) (args : Array Value) : Marks B ({ target := .collected D, args := args } :: ds) W :=
  ⟨D, rfl, hB, hK, h, fun d' hd D' e => Nat.lt_of_lt_of_le (h0.lt d' hd D' e) hD⟩
theorem Marks.other {B D : Nat} : ∀ {ds : List Deferred} {W : World} {o : Obj}, Marks B ds W → (∀ d' ∈ ds, ∀ D', d'.target = .collected D' → D' < D) → Marks B ds (W.putObj D o)
  | [], _, _, _, _ => trivial
  | d :: ds, W, o, ⟨D', h1, h2, h3, h4, h5⟩, h => ⟨D', h1, h2, (World.putObj_heap_other (by have := h d List.mem_cons_self D' h1; omega)).trans h3, h4.other fun d' hd => h d' (List.mem_cons_of_mem _ hd), h5⟩
/-- A function leaves over its marks. J: what is kept while the marks are taken up. -/
theorem leaves_marks {P : Program} {n B : Nat} {fn : Func} {tmps : Array Value} {R : Ending → World → Prop} (J : World → Prop)
    (hJ : ∀ W D, J W → B ≤ D → W.heap[D]? = some (.deferred (some [])) → J (W.putObj D (.deferred none)))
    (hR : ∀ W, J W → LeavesInM Fence.wide n P fn tmps R [] .returning W) : ∀ (ds : List Deferred) (W : World), Marks B ds W → J W → LeavesInM Fence.wide n P fn tmps R ds .returning W
  | [], W, _, hj => hR W hj
  | d :: ds, W, ⟨D, h1, h2, h3, h4, h5⟩, hj =>
    ⟨by simp, .inl ⟨D, _, h1, run_takeDeferred h3, leaves_marks J hJ hR ds _ (h4.other h5) (hJ W D hj h2 h3)⟩⟩
/-- Blocks for deferred calls lie as they lay. -/
def KeepD (W0 W : World) : Prop := ∀ (D : Nat) (o : Option (List Deferred)), W0.heap[D]? = some (Obj.deferred o) → W.heap[D]? = some (Obj.deferred o)
theorem KeepD.refl (W : World) : KeepD W W := fun _ _ h => h
theorem KeepD.others {W0 W W' : World} (h : KeepD W0 W) (k : KeepsOthers W W') : KeepD W0 W' := fun D o hD => k.same D _ (h D o hD) rfl
theorem KeepD.trans {A B C : World} (h : KeepD A B) (k : KeepD B C) : KeepD A C := fun D o hD => k D o (h D o hD)
theorem KeepD.alloc (W : World) (o : Obj) : KeepD W (W.alloc o) := (KeepD.refl W).others (KeepsOthers.alloc W o)
theorem ownFrom_keepD {β : Type} {W0 : World} : OwnFrom W0.heap.size (fun (_ : β) W => KeepD W0 W) := fun _ W W' row h hg hr D o hD => by
  have h1 := h D o hD
  have h2 : D < W0.heap.size := (Array.getElem?_eq_some_iff.1 hD).1
  rw [hg.block D (Array.getElem?_eq_some_iff.1 h1).1 (fun e => by have := (hr D e.symm).1; omega)]
  exact h1
theorem Marks.keepD {B : Nat} {ds : List Deferred} {W W' : World} (h : Marks B ds W) (k : KeepD W W') : Marks B ds W' := h.mono fun D _ hD => k D _ hD
/-- An append leaves whatever is no cells. -/
theorem own_keeps {w w' : World} {base size n : Nat} {e : TypeId} {v : Value} {xs : List Value} (h : w.ownsRow base e size v n xs) (hg : w.grownBy w' v.ownBlock) : KeepsOthers w w' := by
  refine KeepsOthers.of_grownBy hg fun j o hj ho => ?_
  obtain ⟨_, ⟨rfl, _⟩ | ⟨g, cap, cur, rfl, _, hgg, _⟩⟩ := h
  · cases hj
  · injection hj with hj
    subst hj
    have : some o = some _ := ho.symm.trans hgg
    injection this with this
    subst this
    rfl
/-- A row of one's own abides a turn of a block that holds no cells. -/
theorem own_put {W : World} {base size n D : Nat} {e : TypeId} {v : Value} {xs : List Value} {o : Obj} (o' : Obj) (h : W.ownsRow base e size v n xs) (hD : W.heap[D]? = some o) (ho : o.isCells = false) : (W.putObj D o').ownsRow base e size v n xs := by
  refine ⟨h.1, ?_⟩
  rcases h.2 with hn | ⟨g, cap, cur, rfl, hg, hgg, rest⟩
  · exact .inl hn
  · refine .inr ⟨g, cap, cur, rfl, hg, ?_, rest⟩
    rw [World.putObj_heap_other]
    · exact hgg
    · rintro rfl
      rw [hD] at hgg
      injection hgg with hgg
      subst hgg
      cases ho
theorem own_kept {W W' : World} {base size n : Nat} {e : TypeId} {v : Value} {xs : List Value} {row : Option Nat} (h : W.ownsRow base e size v n xs) (hg : W.grownBy W' row) (hr : ∀ r, row = some r → ∃ o : Obj, W.heap[r]? = some o ∧ o.isCells = false) : W'.ownsRow base e size v n xs := by
  refine ⟨h.1, ?_⟩
  rcases h.2 with hn | ⟨g, cap, cur, rfl, hb, hgg, rest⟩
  · exact .inl hn
  · exact .inr ⟨g, cap, cur, rfl, hb, (grownBy_keeps_cells hg hr hgg rfl).trans hgg, rest⟩
theorem results_cells2 {P : Program} {fn : Func} {p q : Tmp} {s t : TypeId} (h : fn.results = #[.cell p s, .cell q t]) {tmps : Array Value} {w : World} {a b : Addr} {u v : Value}
    (hp : tmps.getD p undef = .pointer (some a)) (hq : tmps.getD q undef = .pointer (some b)) (hu : (loadVar s a).run P w = .ok u w) (hv : (loadVar t b).run P w = .ok v w) :
    (results fn tmps).run P w = .ok (.tuple #[u, v]) w := by
  simp only [results, h]
  rw [Array.getD_eq_getD_getElem?] at hp hq
  simp [asAddr, hp, hq, hu, hv, Sem.run_bind]
theorem run_store_func {P : Program} {w : World} {a : Addr} {m : Mode} (f : Fn) (x y : Array Value) : (store a (.func f x y) m).run P w = stored P w a (.func f x y) m := run_store P w a _ m rfl
/-- A call of a closure. -/
theorem yields_closure {P : Program} {o : Oper} {ρ : Operand → Value} {w : World} {R : Value → World → Prop} {f : FuncId} {lb : Array Value} {x : Operand} {xs : Array Operand} {ts : Array TypeId} {args : Array Value} (ho : o.op = .call { callee := .value x, args := xs, argTypes := ts })
    (hf : (P.funcs[f]?).map (fun fn => (fn.name == "runtime.NumGoroutine", fn.body.isNone)) = some (false, false)) (hfn : ρ x = .func (.func f) #[] lb) (ha : xs.toList.map ρ = args.toList) (hc : Calls P f (args ++ lb) w fun e w' => ∃ v, e = .returned v ∧ R v w') : Yields P o ρ w R := by
  have ha' : xs.map ρ = args := by
    apply Array.toList_inj.1
    rw [Array.toList_map]; exact ha
  have hr : (execOp ρ o).run P w = .ok (.enter f (args ++ lb)) w := by
    unfold execOp
    simp only [ho, resolve, hfn, Deferred.ofValue, ha']
    simp [invoke, run_callFunc hf]
  unfold Yields
  rw [hr]
  exact hc
theorem below_others {W W' : World} (h : Below W.heap.size W W') : KeepsOthers W W' := ⟨h.size, fun k _o hk _ => (h.block k (Array.getElem?_eq_some_iff.1 hk).1).trans hk⟩
/-- A row of one's own abides a store elsewhere. -/
theorem own_set {w : World} {base size n : Nat} {e : TypeId} {v : Value} {xs : List Value} {a : Addr} {u : Value} (h : w.ownsRow base e size v n xs) (hne : ∀ b, v.ownBlock = some b → b ≠ a.block) : (w.setCell a u).ownsRow base e size v n xs := by
  refine ⟨h.1, ?_⟩
  rcases h.2 with hn | ⟨g, cap, cur, rfl, hb, hgg, rest⟩
  · exact .inl hn
  · exact .inr ⟨g, cap, cur, rfl, hb, (Below.heap_setCell w a u g (hne g rfl)).trans hgg, rest⟩
end Go.Own
end
/- journal: get, over slices.Backward. -/
section
namespace Go.Jn
open Go.RowKit Go.Own
/-- What a round keeps: the cells of some blocks. -/
def KpC (F : List Nat) (W W' : World) : Prop := ∀ g ∈ F, ∀ i v, W.cell? ⟨g, i, none⟩ = some v → W'.cell? ⟨g, i, none⟩ = some v
theorem KpC.refl (F : List Nat) (W : World) : KpC F W W := fun _ _ _ _ h => h
theorem KpC.trans {F : List Nat} {A B C : World} (h : KpC F A B) (k : KpC F B C) : KpC F A C := fun g hg i v hv => k g hg i v (h g hg i v hv)
theorem KpC.put {F : List Nat} (W : World) (l : Nat) (o o' : Obj) (h : W.heap[l]? = some o) (ho : o.isCells = false) : KpC F W (W.putObj l o') :=
  fun _ _ _ _ hv => cell_kept hv (grownBy_putObj' W l o') fun r e => by cases e; exact ⟨o, h, ho⟩
theorem KpC.chg {F G : List Nat} {W W' : World} (h : Chg G W W') (hF : ∀ g ∈ F, g < W.heap.size ∧ g ∉ G) : KpC F W W' := fun g hg _i _v hv =>
  (World.cell?_of_block (w := W) (h.block g (hF g hg).1 (hF g hg).2)).trans hv
theorem KpC.set {F : List Nat} (W : World) (a : Addr) (v : Value) (h : a.block ∉ F) : KpC F W (W.setCell a v) :=
  fun g hg _i _u hu => (World.cell?_of_block (Below.heap_setCell W a v g (fun e => h (e ▸ hg)))).trans hu
theorem KpC.cells {F : List Nat} {W W' : World} (h : KpC F W W') {g off : Nat} {vs : List Value} (hc : Cells W g off vs) (hg : g ∈ F) : Cells W' g off vs := fun i v hi => h g hg _ _ (hc i v hi)
/-- a place of a row -/
abbrev Ix (n : Nat) := { x : Nat // x < n }
/-- the last k places, from behind -/
def bw (n : Nat) : Nat → List (Ix n)
  | 0 => []
  | k + 1 => bw n k ++ if h : n - 1 - k < n then [⟨n - 1 - k, h⟩] else []
theorem bw_succ {n k : Nat} (h : k < n) : bw n (k + 1) = bw n k ++ [⟨n - 1 - k, by omega⟩] := by rw [bw, dif_pos (by omega)]
theorem bw_len {n : Nat} : ∀ {k : Nat}, k ≤ n → (bw n k).length = k
  | 0, _ => rfl
  | k + 1, h => by rw [bw_succ (by omega), List.length_append, bw_len (by omega)]; rfl
theorem bw_pre {n : Nat} : ∀ (j k : Nat), bw n k <+: bw n (k + j)
  | 0, k => List.prefix_refl _
  | j + 1, k => (bw_pre j k).trans (by rw [← Nat.add_assoc, bw]; exact List.prefix_append _ _)
theorem bw_preN {n k : Nat} (h : k ≤ n) : bw n k <+: bw n n := by
  have := bw_pre (n := n) (n - k) k
  rwa [show k + (n - k) = n by omega] at this
/-- the number read so far -/
def acc (bs : List UInt8) (pre : List (Ix bs.length)) : Nat := pre.foldl (fun a x => a * 256 + (bs[x.1]'x.2).toNat) 0
theorem acc_snoc (bs : List UInt8) (pre : List (Ix bs.length)) (x : Ix bs.length) : acc bs (pre ++ [x]) = acc bs pre * 256 + (bs[x.1]'x.2).toNat := by unfold acc; rw [List.foldl_append]; rfl
theorem acc_lt (bs : List UInt8) : ∀ (k : Nat) (pre : List (Ix bs.length)), pre.length = k → acc bs pre < 256 ^ k
  | 0, pre, h => by obtain rfl := List.length_eq_zero_iff.1 h; simp [acc]
  | k + 1, pre, h => by
    obtain ⟨q, x, rfl⟩ : ∃ q x, pre = q ++ [x] := by
      have hne : pre ≠ [] := by intro e; rw [e] at h; cases h
      exact ⟨_, _, (List.dropLast_concat_getLast hne).symm⟩
    have := acc_lt bs k q (by simpa using h)
    rw [acc_snoc, Nat.pow_succ]
    have := (bs[x.1]'x.2).toNat_lt
    omega
theorem acc_bw (bs : List UInt8) : ∀ k, k ≤ bs.length → acc bs (bw bs.length k) = num (bs.drop (bs.length - k))
  | 0, _ => by simp [acc, bw, num]
  | k + 1, h => by
    rw [bw_succ (by omega), acc_snoc, acc_bw bs k (by omega)]
    have h1 : bs.length - (k + 1) < bs.length := by omega
    rw [List.drop_eq_getElem_cons h1, num, show bs.length - (k + 1) + 1 = bs.length - k by omega]
    simp only [show bs.length - 1 - k = bs.length - (k + 1) by omega]
    omega
end Go.Jn
namespace Go.Proofs.YtbmnbdkbgpajeaaGreatDoor
open Go.RowKit Go.Own Go.Jn Go.BigFrame Go.Shelf
attribute [local go_sem] Oper.semAt_some SqC.wide_fn SqC.wide_round_fn
theorem backward_any (sa : Option Addr) (n cap : Nat) (w : World) : Calls Tryz.prog 95 #[.slice sa n cap] w fun e w' => e = .returned (.func (.func 103) #[] #[.pointer (some ⟨w.heap.size, 0, none⟩)]) ∧ w' = w.alloc (.cells #[.slice sa n cap] 81) := by
  go_enter Tryz.func95, Tryz.ntmps95
  go_wp2
  go_ret
  exact ⟨rfl, rfl⟩
set_option maxRecDepth 100000 in
set_option maxHeartbeats 2000000 in
theorem backward1_in (lv : Nat) (hlv : 1 ≤ lv) (l Bs b off cap : Nat) (bs : List UInt8) (hn : bs.length ≤ 4) (J Jx : List (Ix bs.length) → World → Prop)
    (hY : ∀ pre (x : Ix bs.length) W, J pre W → pre.length < 4 → YieldAt Fence.wide (lv - 1) Tryz.prog l #[.int .i64 (x.1 : Int), byv (bs[x.1]'x.2)] W fun e W' =>
      (e = .returned (.bool true) ∧ J (pre ++ [x]) W' ∧ KpC [Bs, b] W W') ∨ (e = .returned (.bool false) ∧ Jx (pre ++ [x]) W'))
    (W : World) (hBs : W.cell? ⟨Bs, 0, none⟩ = some (.slice (some ⟨b, off, none⟩) bs.length cap)) (hC : Cells W b off (bs.map byv)) (h0 : J [] W) :
    CallsIn Fence.wide lv Tryz.prog 103 #[.func (.yield l) #[] #[], .pointer (some ⟨Bs, 0, none⟩)] W fun e W' => (∃ v, e = .returned v) ∧
      ((∃ ys, ys = bw bs.length bs.length ∧ J ys W') ∨ (∃ pre, pre <+: bw bs.length bs.length ∧ Jx pre W')) := by
  refine callsIn_of_wp Tryz.func103 rfl trivial ?_ rfl
  simp only [Tryz.ntmps103, List.size_toArray, List.length_cons, List.length_nil, Nat.reduceAdd, Nat.reduceSub, Array.replicate_succ, Array.replicate_zero, List.push_toArray, List.append_toArray, List.nil_append, List.cons_append]
  gi_wp2
  gi_loopw [3] (fun i wr => ∃ (k : Nat) (z : Int), k ≤ bs.length ∧ z = (bs.length : Int) - 1 - k ∧ i = .int .i64 z ∧ J (bw bs.length k) wr ∧ KpC [Bs, b] W wr)
    (fun i _ => (jInt i + 1).toNat)
  case atStart => exact ⟨0, _, Nat.zero_le _, by simp, rfl, h0, KpC.refl _ _⟩
  case round =>
    obtain ⟨k, z, hk, hz, rfl, hJs, hnx⟩ := hrel
    have hcx : wr.cell? ⟨Bs, 0, none⟩ = some (.slice (some ⟨b, off, none⟩) bs.length cap) := hnx Bs (by simp) _ _ hBs
    by_cases hlt : k < bs.length
    · obtain ⟨i, hi⟩ : ∃ i, i = bs.length - 1 - k := ⟨_, rfl⟩
      have hib : i < bs.length := by omega
      obtain rfl : z = (i : Int) := by omega
      have hci : wr.cell? ⟨b, off + i, none⟩ = some (byv bs[i]) := hnx b (by simp) _ _ (hC i _ (by simp [hib]))
      have hibi : (i : Int) < bs.length := by omega
      obtain ⟨fn, tmps, assign, body, hy, hR⟩ := hY _ ⟨i, hib⟩ wr hJs (by rw [bw_len hk]; omega)
      dsimp only at hy
      have HR := Lib.hid hR; clear hR
      have HI := Lib.hid hi; clear hi hz
      have HX := Lib.hid hnx; clear hnx
      have hd : decide ((0 : Int) ≤ (i : Int)) = true := decide_eq_true (by omega)
      gi_wp2
      refine HR.out.mono ?_
      rintro e W3 (⟨rfl, hJ3, hk3⟩ | ⟨rfl, hJx3⟩)
      · have HJ3 := Lib.hid hJ3; clear hJ3
        have HK3 := Lib.hid hk3; clear hk3
        gi_wp2
        go_roundw
        case rel =>
          refine ⟨k + 1, _, by omega, ?_, rfl, ?_, HX.out.trans HK3.out⟩
          · have := HI.out; omega
          · rw [bw_succ hlt]; have := HJ3.out; simp only [HI.out] at this; exact this
        case measure => simp [jInt]
      · have HJX := Lib.hid hJx3; clear hJx3
        gi_wp2
        refine bodyPost_ret (results_none rfl _ _ _) rfl ?_
        refine ⟨⟨_, rfl⟩, .inr ⟨_, ?_, HJX.out⟩⟩
        have := bw_preN (n := bs.length) (k := k + 1) (by omega)
        rw [bw_succ hlt] at this
        simp only [HI.out]
        exact this
    · obtain rfl : k = bs.length := by omega
      obtain rfl : z = -1 := by omega
      gi_wp2
      go_end0
      exact ⟨⟨_, rfl⟩, .inl ⟨_, rfl, hJs⟩⟩
theorem backward1_stops (lv : Nat) (hlv : 1 ≤ lv) (Bs b off cap : Nat) (bs : List UInt8) (hn : bs.length ≤ 4) (w : World) (hb : Bs < w.heap.size) (hb2 : b < w.heap.size) (hBs : w.cell? ⟨Bs, 0, none⟩ = some (.slice (some ⟨b, off, none⟩) bs.length cap)) (hC : Cells w b off (bs.map byv)) :
    SeqStopsK Fence.wide lv Tryz.prog 103 #[.pointer (some ⟨Bs, 0, none⟩)] (fun x : Ix bs.length => #[Value.int .i64 (x.1 : Int), byv (bs[x.1]'x.2)]) (KpC [Bs, b]) (fun ys => ys = bw bs.length bs.length) (fun pre => pre <+: bw bs.length bs.length) 4 w :=
  fun l J Jx W hW _ _ hY h0 => backward1_in lv hlv l Bs b off cap bs hn J Jx hY W ((hW.cell (p := ⟨Bs, 0, none⟩) hb).trans hBs) (hC.below hW hb2) h0
set_option maxRecDepth 100000 in
theorem get_any (bs : List UInt8) (hn : bs.length ≤ 4) (b off cap : Nat) (w : World) (hC : Cells w b off (bs.map byv)) (hb : b < w.heap.size) (_hcap : bs.length ≤ cap ∧ cap ≤ 1000) :
    Calls Tryz.prog 76 #[.slice (some ⟨b, off, none⟩) bs.length cap] w fun e w' => e = .returned (.int .i64 (num bs)) ∧ Below w.heap.size w w' := by
  refine (callsIn_wide (n := 4)).1 ?_
  refine callsIn_of_wp_marks Tryz.func76 rfl trivial ?_ rfl
  simp only [Tryz.ntmps76, List.size_toArray, List.length_cons, List.length_nil, Nat.reduceAdd, Nat.reduceSub, Array.replicate_succ, Array.replicate_zero, List.push_toArray, List.append_toArray, List.nil_append, List.cons_append]
  gi_wp2_with (gi_at_call 95; refine (callsIn_wide.2 (backward_any _ _ _ _)).mono ?_; rintro e w' ⟨rfl, rfl⟩)
  gi_wp2
  obtain ⟨W0, hW0⟩ : ∃ W0, (w.alloc (.cells #[.int .i64 0] 3)).alloc (.cells #[.slice (some ⟨b, off, none⟩) bs.length cap] 81) = W0 := ⟨_, rfl⟩
  have h2 : Blk W0 w.heap.size [.int .i64 0] 3 := by rw [← hW0]; exact (Blk.new _ _ _).alloc _
  have h3 : Blk W0 (w.heap.size + 1) [.slice (some ⟨b, off, none⟩) bs.length cap] 81 := by rw [← hW0]; exact Blk.new_at _ _ _ (by simp)
  have h4 : Below w.heap.size w W0 := by rw [← hW0]; exact ((Below.refl _ w).alloc (Nat.le_refl _) _).alloc (by simp) _
  have h5 : W0.heap.size = w.heap.size + 2 := by rw [← hW0]; simp
  rw [hW0]
  clear hW0
  refine wpIn_rangeFunc_ownF rfl (by decide) (gf := 103) (lb := #[.pointer (some ⟨w.heap.size + 1, 0, none⟩)]) rfl trivial (enters_of Tryz.func103 (by kernel_rfl) rfl)
    (backward1_stops 3 (by decide) (w.heap.size + 1) b off cap bs hn W0 (by omega) (by omega) (h3.cell rfl) (hC.below h4 hb)) KpC.trans (fun W l o o' _ h ho _ => KpC.put W l o o' h ho) (Below.refl _ _) (fun _ => rfl)
    (fun pre W => Blk W w.heap.size [.int .i64 ((acc bs pre : Nat) : Int)] 3 ∧ Below w.heap.size w W)
    (fun _ _ _ => False) (ownFrom_blk.and (ownFrom_below (Nat.le_refl _) (by omega))) (fun _ => ownFrom_false) ⟨h2, h4⟩
    (fun x => { tmps := #[.slice (some ⟨b, off, none⟩) bs.length cap, undef, .int .i64 0, .pointer (some ⟨w.heap.size, 0, none⟩), undef, byv (bs[x.1]'x.2), .slice (some ⟨b, off, none⟩) bs.length cap, .func (.func 103) #[] #[.pointer (some ⟨w.heap.size + 1, 0, none⟩)], .int .i64 (x.1 : Int), byv (bs[x.1]'x.2), undef, undef, undef, undef, undef, undef], defers := [] }) ?assign ?body ?done ?stop
  case assign =>
    intro l x W K hK
    gi_wp2
    exact hK
  case body =>
    rintro l pre x W ⟨k2, k3⟩ hlt
    obtain ⟨a, ha⟩ : ∃ a, a = acc bs pre := ⟨_, rfl⟩
    have ha2 : a < 16777216 := by
      have h1 := acc_lt bs pre.length pre rfl
      have h2 : (256 : Nat) ^ pre.length ≤ 256 ^ 3 := Nat.pow_le_pow_right (by decide) (by omega)
      rw [← ha] at h1
      omega
    rw [← ha] at k2
    have cS : W.cell? ⟨w.heap.size, 0, none⟩ = some (.int .i64 a) := k2.cell rfl
    have cSf : W.frozen? ⟨w.heap.size, 0, none⟩ = false := k2.frozen 0
    have hy := (bs[x.1]'x.2).toNat_lt
    have HS : Hid (bits .or .i64 ((a : Int) * 256) (wrap64 ((bs[x.1]'x.2).toNat : Int)) = ((acc bs (pre ++ [x]) : Nat) : Int)) := Lib.hid (by
      rw [acc_snoc, ← ha]
      obtain ⟨y, hy2⟩ : ∃ y, y = (bs[x.1]'x.2).toNat := ⟨_, rfl⟩
      rw [← hy2] at hy ⊢
      rw [IntWalk.wrap64_in _ (by omega), show (a : Int) * 256 = ((a * 256 : Nat) : Int) by omega, Go.Ib.b_or (a * 256) y (by omega) (by omega)]
      have := Nat.shiftLeft_add_eq_or_of_lt (i := 8) (b := y) (by omega) a
      rw [Nat.shiftLeft_eq, show (2 : Nat) ^ 8 = 256 from rfl] at this
      rw [← this])
    have HA := Lib.hid ha; clear ha hy
    gi_wp2
    refine ⟨KeepsOthers.setCell _ _ _, KpC.set _ _ _ (by simp; omega), ?_, below_set k3 (Nat.le_refl _) (Nat.le_refl _) _ _⟩
    rw [HS.out]
    exact k2.set 0 _
  case done =>
    rintro D ys W hD rfl ⟨k2, k3⟩ hK
    rw [acc_bw bs bs.length (Nat.le_refl _), Nat.sub_self, List.drop_zero] at k2
    have cS : W.cell? ⟨w.heap.size, 0, none⟩ = some (.int .i64 (num bs)) := k2.cell rfl
    gi_wp2
    refine ⟨by simp, .inl ⟨_, _, rfl, run_takeDeferred hK, ?_⟩⟩
    refine ⟨_, results_tmp rfl _ _ _, ?_⟩
    exact ⟨rfl, k3.trans (belowK_b (w := w) (Nat.le_refl _) W D _ _ (by omega) hK rfl rfl)⟩
  case stop =>
    rintro D c pre W _ _ h _
    exact h.elim
end Go.Proofs.YtbmnbdkbgpajeaaGreatDoor
end
/- '[]byte(s)': the new block whole, so that it may be written. Any program. -/
section
namespace Go.Own
open Go.RowKit Go.Lib
/-- Block g holds these cells; what lies behind them is frozen. -/
def Blf (w : World) (g : Nat) (l : List Value) (t : TypeId) : Prop := w.heap[g]? = some (.cells l.toArray t (l.length, l.length + 1))
theorem Blf.lt {w : World} {g : Nat} {l : List Value} {t : TypeId} (h : Blf w g l t) : g < w.heap.size := by
  rcases Nat.lt_or_ge g w.heap.size with h' | h'
  · exact h'
  · unfold Blf at h; rw [Array.getElem?_eq_none h'] at h; cases h
theorem Blf.cell {w : World} {g : Nat} {l : List Value} {t : TypeId} {i : Nat} {v : Value} (h : Blf w g l t) (hi : l[i]? = some v) : w.cell? ⟨g, i, none⟩ = some v := by
  rw [cell_of_row w g i _ t _ h]; simpa using hi
theorem Blf.frozen {w : World} {g : Nat} {l : List Value} {t : TypeId} (h : Blf w g l t) {i : Nat} (hi : i < l.length) : w.frozen? ⟨g, i, none⟩ = false := by
  unfold Blf at h
  simp [World.frozen?, h]; omega
theorem Blf.set {w : World} {g : Nat} {l : List Value} {t : TypeId} (h : Blf w g l t) (i : Nat) (v : Value) : Blf (w.setCell ⟨g, i, none⟩ v) g (l.set i v) t := by
  unfold Blf
  rw [setCell_eq_setRow w g i _ t _ v h, setRow_heap w g _ _ t _ h]
  simp
theorem Blf.drewN {w : World} {g : Nat} {l : List Value} {t : TypeId} (h : Blf w g l t) (n : Nat) : Blf (w.drewN n) g l t := by
  unfold Blf at *; simpa using h
theorem Blf.below {w w' : World} {g B : Nat} {l : List Value} {t : TypeId} (h : Blf w g l t) (hb : Below B w w') (hg : g < B) : Blf w' g l t := by
  unfold Blf; rw [hb.block g hg]; exact h
theorem Blf.cells {w : World} {g : Nat} {l : List Value} {t : TypeId} (h : Blf w g l t) (off : Nat) (vs : List Value) (hv : (l.drop off).take vs.length = vs) : Cells w g off vs := fun i v hi => by
  have hlt : i < vs.length := (List.getElem?_eq_some_iff.1 hi).1
  rw [← hv, List.getElem?_take_of_lt hlt, List.getElem?_drop] at hi
  exact h.cell hi
theorem run_str_bytes2 {P : Program} {w : World} {src dst e : TypeId} (hs : P.underlying src = some .string) (hd : P.underlying dst = some (.slice e)) (he : P.underlying e = some (.int .u8)) (bs : List UInt8) (hm : bs.length ≤ 140737488355328) :
    ∃ cap sp, (convert src dst (str bs)).run P w = .ok (.slice (some ⟨w.heap.size, 0, none⟩) bs.length cap) (bytesWorld w e ⟨bs.toArray⟩) ∧ bs.length ≤ cap ∧ cap ≤ maxLen ∧ Blf (bytesWorld w e ⟨bs.toArray⟩) w.heap.size (bs.map byv ++ sp) e ∧ Below w.heap.size w (bytesWorld w e ⟨bs.toArray⟩) := by
  have hsz : (⟨bs.toArray⟩ : ByteArray).size = bs.length := by simp [ByteArray.size]
  have hcap : bs.length ≤ grownCap w bs.length 0 e ∧ grownCap w bs.length 0 e ≤ maxLen := by
    unfold grownCap Question.cut maxLen
    have := Nat.mod_lt (w.tape w.drawn (.appendCap bs.length 0 e)) (show 2 ^ 63 - bs.length > 0 by omega)
    simp only []
    omega
  have hr := Go.Lib.run_convert_string_bytes (P := P) w src dst e ⟨bs.toArray⟩ hs hd he
  rw [hsz] at hr
  refine ⟨_, List.replicate (grownCap w bs.length 0 e - bs.length) (.int .u8 0), hr, hcap.1, hcap.2, ?_, ?_⟩
  · have h := bytesWorld_at_new w e ⟨bs.toArray⟩
    unfold Blf
    rw [h]
    simp [bytesCells, hsz]
  · exact below_freeze ((Below.drew (Below.refl _ w)).alloc (Nat.le_refl _) _) (p := ⟨w.heap.size, _, none⟩) (Nat.le_refl _) 1
/-- '[]byte(s)'. -/
theorem wpList_str_bytes {P : Program} {ops : Array Oper} {rest : List Oper} {o : Oper} {a : Act} {w : World} {Q : Exit → Act → World → Prop} {src dst e : TypeId} {x : Operand} {bs : List UInt8}
    (hgd : o.guard = none) (ho : o.op = .convert src dst x) (hx : a.eval x = str bs) (hs : P.underlying src = some .string) (hd : P.underlying dst = some (.slice e)) (he : P.underlying e = some (.int .u8)) (hm : bs.length ≤ 140737488355328)
    (h : ∀ cap sp w', bs.length ≤ cap → cap ≤ maxLen → Blf w' w.heap.size (bs.map byv ++ sp) e → Below w.heap.size w w' → wpList P ops Q rest (a.put o.dst (.slice (some ⟨w.heap.size, 0, none⟩) bs.length cap)) w') : wpList P ops Q (o :: rest) a w :=
  wpList_plain hgd fun _ hK => by
    obtain ⟨cap, sp, h1, h2, h3, h4, h5⟩ := run_str_bytes2 (P := P) (w := w) hs hd he bs hm
    unfold Oper.wp execOp
    simp only [ho, hx, Sem.run_bind, Sem.run_pure, Result.andThen_ok, h1]
    exact hK _ _ (h cap sp _ h2 h3 h4 h5)
end Go.Own
end
