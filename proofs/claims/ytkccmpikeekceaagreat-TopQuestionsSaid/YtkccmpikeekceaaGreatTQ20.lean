/- ev: code. No program. -/
import Derived.Test.YtkccmpikeekceaaGreatTQ19
import Derived.Scope
import Derived.RangeFuncLeaves
import Derived.Test.YtkccmpikeekceaaGreatTQ14
/- ev: code. No program. -/
section
namespace Go.Ev
open Go.RowKit Go.Own
variable {P : Program}
def exE : Ex → Exit
  | .normal => .normal
  | .ret => .ret
  | .exit id => .exit id
/-- Marks that loops over functions left among the deferred calls. -/
def Mk (base : Nat) (w : World) : List Deferred → Prop
  | [] => True
  | d :: ds => (∃ D, d = { target := .collected D, args := #[] } ∧ base ≤ D ∧ w.heap[D]? = some (.deferred (some [])) ∧ ∀ d' ∈ ds, d'.target ≠ .collected D) ∧ Mk base w ds
theorem Mk.keep {base : Nat} {w w' : World} (h : ∀ D, base ≤ D → w.heap[D]? = some (.deferred (some [])) → w'.heap[D]? = some (.deferred (some []))) : ∀ {ds : List Deferred}, Mk base w ds → Mk base w' ds
  | [], _ => trivial
  | _d :: _ds, ⟨⟨D, h1, h2, h3, h4⟩, h5⟩ => ⟨⟨D, h1, h2, h D h2 h3, h4⟩, Mk.keep h h5⟩
/-- What is no row of cells stays. -/
theorem Step.obj {W : Nat → Prop} {K K' : Mem} {g g' : Gh} {nx nx' : Nat} {w w' : World} (h : Step W K g nx w K' g' nx' w') (hs : Sim K g nx w) {D : Nat} {o : Obj} (hD : w.heap[D]? = some o) (ho : ∀ c t f, o ≠ .cells c t f) : w'.heap[D]? = some o := by
  have hlt : D < w.heap.size := (Array.getElem?_eq_some_iff.1 hD).1
  rw [h.frame D hlt fun b _ hk e => ?_]
  · exact hD
  · cases hb : K b with
    | none => exact hk hb
    | some l =>
      obtain ⟨_, _, _, cs, t, h4, _⟩ := hs.blk b l hb
      rw [e, hD] at h4
      injection h4 with h4
      exact ho _ _ _ h4
theorem Mk.step {base : Nat} {s s' : S} {g g' : Gh} {w w' : World} {ds : List Deferred} (h : StepS s g w s' g' w') (hs : Sim s.H.get g s.nx w) (hm : Mk base w ds) : Mk base w' ds :=
  hm.keep fun D _ hD => h.1.obj hs hD (by intro c t f e; cases e)
theorem stepR_scope {b : Frame} {a : Act} {k : List Item} {cs : List Frame} {w : World} {c : Code} : step P (lone (b.atR a (.code (.scope c) :: k)) cs w) = .next (lone (b.atR a (.code c :: .inScope c :: k)) cs w) :=
  step_lone_go (by simp [stepG, stepG.exec, Frame.atR])
theorem stepR_inScope {b : Frame} {a : Act} {k : List Item} {cs : List Frame} {w : World} {c : Code} : step P (lone (b.atR a (.inScope c :: k)) cs w) = .next (lone (b.atR a k) cs w) :=
  step_lone_go (by simp [stepG, stepG.exec, Frame.atR])
theorem wpIn_scope {F : Fence} {n : Nat} {c : Code} {Q : Exit → Act → World → Prop} {a : Act} {w : World} (h : c.wpIn F n P (Exit.noGoto Q) a w) : (Code.scope c).wpIn F n P Q a w := by
  intro b k cs hro hb hr
  have h0 : (lone (b.atR a (.code (.scope c) :: k)) cs w).fenced P F := fenced_calm hb hr rfl
  obtain ⟨e, a₁, w₁, hq, harr⟩ := h b (.inScope c :: k) cs hro hb hr
  cases e with
  | normal => exact ⟨.normal, a₁, w₁, hq, .head h0 stepR_scope (StepsIn.trans harr (.one (fenced_calm hb hr rfl) stepR_inScope))⟩
  | exit id =>
    have hx : exitTo id (.inScope c :: k) = exitTo id k := by simp [exitTo]
    exact ⟨.exit id, a₁, w₁, hq, fun k' hk => .head h0 stepR_scope (harr.1 k' (by rw [hx]; exact hk)),
      fun hr' hk => let ⟨k₁, h1, h2⟩ := harr.2 hr' (by rw [hx]; exact hk); ⟨k₁, h1, .head h0 stepR_scope h2⟩⟩
  | goto l => exact hq.elim
  | ret => exact ⟨_, a₁, w₁, hq, .of_steps (.one h0 stepR_scope) harr⟩
  | panic ch => exact ⟨_, a₁, w₁, hq, .of_steps (.one h0 stepR_scope) harr⟩
  | outgrown => exact ⟨_, a₁, w₁, hq, .of_steps (.one h0 stepR_scope) harr⟩
/-- A loop, once more. -/
def LoopIn (F : Fence) (n : Nat) (P : Program) (c : Code) (Q : Exit → Act → World → Prop) (a : Act) (w : World) : Prop :=
  ∀ (b : Frame) (k : List Item) (cs : List Frame), b.roundOf = F.round → F.fn b.fn → F.room (cs.length + 1 + n) →
    ∃ e a' w', Q e a' w' ∧ ArrivesIn (Machine.fenced P F) P (lone (b.atR a (.code c :: .inLoop c :: k)) cs w) b k cs e a' w'
theorem wpIn_of_loop {F : Fence} {n : Nat} {c : Code} {Q : Exit → Act → World → Prop} {a : Act} {w : World} (h : LoopIn F n P c Q a w) : (Code.loop c).wpIn F n P Q a w := by
  intro b k cs hro hb hr
  obtain ⟨e, a', w', hq, harr⟩ := h b k cs hro hb hr
  exact ⟨e, a', w', hq, .of_steps (.one (fenced_calm hb hr rfl) stepR_loop) harr⟩
theorem loop_once {F : Fence} {n : Nat} {c : Code} {Q : Exit → Act → World → Prop} {a : Act} {w : World} (h : c.wpIn F n P (Exit.then (LoopIn F n P c Q) Q) a w) : LoopIn F n P c Q a w := by
  intro b k cs hro hb hr
  obtain ⟨e, a₁, w₁, hq, harr⟩ := h b (.inLoop c :: k) cs hro hb hr
  cases e with
  | normal =>
    obtain ⟨e₂, a₂, w₂, hq₂, harr₂⟩ := hq b k cs hro hb hr
    exact ⟨e₂, a₂, w₂, hq₂, .of_steps (StepsIn.trans harr (.one (fenced_calm hb hr rfl) stepR_inLoop)) harr₂⟩
  | exit id => exact ⟨_, a₁, w₁, hq, .pass (x := .inLoop c) rfl (fun _ _ => .inl (by simp)) harr⟩
  | goto l => exact ⟨_, a₁, w₁, hq, .pass (x := .inLoop c) rfl (fun _ _ => .inl (by simp)) harr⟩
  | ret => exact ⟨_, a₁, w₁, hq, .pass (x := .inLoop c) rfl (fun _ _ => .inl (by simp)) harr⟩
  | panic ch => exact ⟨_, a₁, w₁, hq, .pass (x := .inLoop c) rfl (fun _ _ => .inl (by simp)) harr⟩
  | outgrown => exact ⟨_, a₁, w₁, hq, .pass (x := .inLoop c) rfl (fun _ _ => .inl (by simp)) harr⟩
/-- What is left to say behind a piece of code. -/
def Behind (base : Nat) (s : S) (g : Gh) (w : World) (a : Act) (ex : Ex) (T' : Tr A) (s' : S) (Q : Exit → Act → World → Prop) : Prop :=
  ∀ g' a' w', StepS s g w s' g' w' → Fr g' w' s'.nx T' a' → (∃ ms, a'.defers = ms ++ a.defers ∧ Mk base w' a'.defers) → a'.tmps.size = a.tmps.size → Q (exE ex) a' w'
/-- A run of code made ready, against the model. -/
def CodeOK (P : Program) (run : XC → Tr A → S → Option (Ex × St)) : Prop :=
  ∀ {ro : Option Nat} {n nt base : Nat} {c : Code} {xc : XC} {T T' : Tr A} {s s' : S} {ex : Ex} {g : Gh} {w : World} {a : Act} {Q : Exit → Act → World → Prop}, 1 ≤ n → rdyC P nt c = some xc → (ro = none ∨ xc.noRange = true) → run xc T s = some (ex, T', s') →
    Fr g w s.nx T a → Sim s.H.get g s.nx w → nt ≤ a.tmps.size → base ≤ w.heap.size → Mk base w a.defers → Behind base s g w a ex T' s' Q → c.wpIn (Fd ro) n P Q a w
def LoopOK (P : Program) (run : XC → Tr A → S → Option (Ex × St)) : Prop :=
  ∀ {ro : Option Nat} {n nt base : Nat} {c : Code} {xc : XC} {T T' : Tr A} {s s' : S} {ex : Ex} {g : Gh} {w : World} {a : Act} {Q : Exit → Act → World → Prop}, 1 ≤ n → rdyC P nt c = some xc → (ro = none ∨ xc.noRange = true) → run (.loop xc) T s = some (ex, T', s') →
    Fr g w s.nx T a → Sim s.H.get g s.nx w → nt ≤ a.tmps.size → base ≤ w.heap.size → Mk base w a.defers → Behind base s g w a ex T' s' Q → LoopIn (Fd ro) n P c Q a w
/-- Ranges over functions, one level up. -/
def RangeOK (P : Program) (K : Known) : Prop :=
  ∀ {k n nt base : Nat} {f : Operand} {ps : Array Tmp} {ca cb : Code} {xf : O} {xa xb : XC} {T T' : Tr A} {s s' : S} {ex : Ex} {g : Gh} {w : World} {a : Act} {Q : Exit → Act → World → Prop}, CodeOK P (evC P K k) → 1 ≤ n → rdyO f = some xf → rdyC P nt ca = some xa → rdyC P nt cb = some xb →
    xa.noRange = true → xb.noRange = true → (∀ p ∈ ps, p < nt) → evC P K (k + 1) (.range xf ps.toList xa xb) T s = some (ex, T', s') →
    Fr g w s.nx T a → Sim s.H.get g s.nx w → nt ≤ a.tmps.size → base ≤ w.heap.size → Mk base w a.defers → Behind base s g w a ex T' s' Q → (Code.rangeFunc f ps ca cb).wpIn (Fd none) n P Q a w
section
variable {K : Known}
theorem code_sound (hm : P.follows .mixedOrders = true) (hR : RangeOK P K) (hcall : ∀ k, CodeOK P (evC P K k) → CallOK P (evCall K (evC P K k))) : ∀ k, CodeOK P (evC P K k) ∧ LoopOK P (evC P K k)
  | 0 => ⟨fun {_ _ _ _ _ _ _ _ _ _ _ _ _ _ _} _ _ _ he => (by cases he), fun {_ _ _ _ _ _ _ _ _ _ _ _ _ _ _} _ _ _ he => (by cases he)⟩
  | k + 1 => by
    obtain ⟨ih, il⟩ := code_sound hm hR hcall k
    have hc := hcall k ih
    -- one piece behind another
    have next : ∀ {ro : Option Nat} {n base : Nat} {s s1 s' : S} {g g1 : Gh} {w w1 : World} {a a1 : Act} {ex : Ex} {T' : Tr A} {Q : Exit → Act → World → Prop}, Sim s.H.get g s.nx w → StepS s g w s1 g1 w1 → (∃ ms, a1.defers = ms ++ a.defers ∧ Mk base w1 a1.defers) → a1.tmps.size = a.tmps.size →
        Behind base s g w a ex T' s' Q → Behind base s1 g1 w1 a1 ex T' s' Q := by
      intro ro n base s s1 s' g g1 w w1 a a1 ex T' Q hs h1 ⟨ms, h2, h3⟩ h4 hQ g' a' w' h5 h6 ⟨ms', h7, h8⟩ h9
      exact hQ g' a' w' (h1.trans hs h5) h6 ⟨ms' ++ ms, by rw [h7, h2, List.append_assoc], h8⟩ (h9.trans h4)
    have hloop : LoopOK P (evC P K (k + 1)) := by
      intro ro n nt base c xc T T' s s' ex g w a Q hn hrd hnr he hf hs hnt hb hd hQ
      refine loop_once ?_
      simp only [evC_loop, thenC] at he
      cases h1 : evC P K k xc T s with
      | none => rw [h1] at he; cases he
      | some p =>
        obtain ⟨e1, T1, s1⟩ := p
        rw [h1] at he
        refine ih hn hrd hnr h1 hf hs hnt hb hd fun g1 a1 w1 q1 q2 q3 q4 => ?_
        cases e1 with
        | normal =>
          exact il hn hrd hnr he q2 q1.1.sim (by rw [q4]; exact hnt) (Nat.le_trans hb q1.1.size) q3.choose_spec.2 (next (ro := ro) (n := n) hs q1 q3 q4 hQ)
        | ret => injection he with he; injection he with e2 e3; injection e3 with e3 e4; subst e2; subst e3; subst e4; exact hQ g1 a1 w1 q1 q2 q3 q4
        | exit id => injection he with he; injection he with e2 e3; injection e3 with e3 e4; subst e2; subst e3; subst e4; exact hQ g1 a1 w1 q1 q2 q3 q4
    refine ⟨?_, hloop⟩
    intro ro n nt base c xc T T' s s' ex g w a Q hn hrd hnr he hf hs hnt hb hd hQ
    have here : ∀ {e : Ex}, (some (e, T, s) : Option (Ex × St)) = some (ex, T', s') → Q (exE e) a w := by
      intro e h
      injection h with h; injection h with e2 e3; injection e3 with e3 e4; subst e2; subst e3; subst e4
      exact hQ g a w (StepS.refl hs) hf ⟨[], rfl, hd⟩ rfl
    cases c with
    | skip => simp only [rdyC] at hrd; injection hrd with hrd; subst hrd; exact wpIn_skip (here he)
    | label l => simp only [rdyC] at hrd; injection hrd with hrd; subst hrd; exact wpIn_label (here he)
    | ret => simp only [rdyC] at hrd; injection hrd with hrd; subst hrd; exact wpIn_ret (here he)
    | exit id => simp only [rdyC] at hrd; injection hrd with hrd; subst hrd; exact wpIn_exit (here he)
    | goto l => simp [rdyC] at hrd
    | refuse why => simp [rdyC] at hrd
    | seq c1 c2 =>
      simp only [rdyC] at hrd
      split at hrd
      · rename_i x1 x2 h1 h2
        injection hrd with hrd; subst hrd
        simp only [evC_seq, thenC] at he
        have hn1 : ro = none ∨ x1.noRange = true := hnr.imp id fun h => by simp only [XC.noRange, Bool.and_eq_true] at h; exact h.1
        have hn2 : ro = none ∨ x2.noRange = true := hnr.imp id fun h => by simp only [XC.noRange, Bool.and_eq_true] at h; exact h.2
        refine wpIn_seq ?_
        cases h3 : evC P K k x1 T s with
        | none => rw [h3] at he; cases he
        | some p =>
          obtain ⟨e1, T1, s1⟩ := p
          rw [h3] at he
          refine ih hn h1 hn1 h3 hf hs hnt hb hd fun g1 a1 w1 q1 q2 q3 q4 => ?_
          cases e1 with
          | normal => exact ih hn h2 hn2 he q2 q1.1.sim (by rw [q4]; exact hnt) (Nat.le_trans hb q1.1.size) q3.choose_spec.2 (next (ro := ro) (n := n) hs q1 q3 q4 hQ)
          | ret => injection he with he; injection he with e2 e3; injection e3 with e3 e4; subst e2; subst e3; subst e4; exact hQ g1 a1 w1 q1 q2 q3 q4
          | exit id => injection he with he; injection he with e2 e3; injection e3 with e3 e4; subst e2; subst e3; subst e4; exact hQ g1 a1 w1 q1 q2 q3 q4
      · cases hrd
    | cond x c1 c2 =>
      simp only [rdyC] at hrd
      split at hrd
      · rename_i y x1 x2 h0 h1 h2
        injection hrd with hrd; subst hrd
        simp only [evC_cond, condC] at he
        have hn1 : ro = none ∨ x1.noRange = true := hnr.imp id fun h => by simp only [XC.noRange, Bool.and_eq_true] at h; exact h.1
        have hn2 : ro = none ∨ x2.noRange = true := hnr.imp id fun h => by simp only [XC.noRange, Bool.and_eq_true] at h; exact h.2
        have hE := hf.env fun _ => True
        split at he
        · rename_i h3
          exact wpIn_cond_true (hE.op h0 (fun _ _ => trivial) h3).1 (ih hn h1 hn1 he hf hs hnt hb hd hQ)
        · rename_i h3
          exact wpIn_cond_false (hE.op h0 (fun _ _ => trivial) h3).1 (ih hn h2 hn2 he hf hs hnt hb hd hQ)
        · cases he
      · cases hrd
    | block id c1 =>
      simp only [rdyC, Option.map_eq_some_iff] at hrd
      obtain ⟨x1, h1, rfl⟩ := hrd
      simp only [evC_block, blockC] at he
      refine wpIn_block ?_
      cases h3 : evC P K k x1 T s with
      | none => rw [h3] at he; cases he
      | some p =>
        obtain ⟨e1, T1, s1⟩ := p
        rw [h3] at he
        refine ih hn h1 hnr h3 hf hs hnt hb hd fun g1 a1 w1 q1 q2 q3 q4 => ?_
        cases e1 with
        | normal => injection he with he; injection he with e2 e3; injection e3 with e3 e4; subst e2; subst e3; subst e4; exact hQ g1 a1 w1 q1 q2 q3 q4
        | ret => injection he with he; injection he with e2 e3; injection e3 with e3 e4; subst e2; subst e3; subst e4; exact hQ g1 a1 w1 q1 q2 q3 q4
        | exit id' =>
          simp only at he
          split at he
          · rename_i hid
            injection he with he; injection he with e2 e3; injection e3 with e3 e4; subst e2; subst e3; subst e4
            simp only [exE, Exit.inBlock]
            rw [if_pos hid]
            exact hQ g1 a1 w1 q1 q2 q3 q4
          · rename_i hid
            injection he with he; injection he with e2 e3; injection e3 with e3 e4; subst e2; subst e3; subst e4
            simp only [exE, Exit.inBlock]
            rw [if_neg hid]
            exact hQ g1 a1 w1 q1 q2 q3 q4
    | loop c1 =>
      simp only [rdyC, Option.map_eq_some_iff] at hrd
      obtain ⟨x1, h1, rfl⟩ := hrd
      exact wpIn_of_loop (hloop hn h1 hnr he hf hs hnt hb hd hQ)
    | scope c1 =>
      simp only [rdyC, Option.map_eq_some_iff] at hrd
      obtain ⟨x1, h1, rfl⟩ := hrd
      refine wpIn_scope (ih hn h1 hnr he hf hs hnt hb hd fun g1 a1 w1 q1 q2 q3 q4 => ?_)
      have := hQ g1 a1 w1 q1 q2 q3 q4
      cases ex <;> exact this
    | region id ops draw =>
      cases draw with
      | false =>
        simp only [rdyC, Option.map_eq_some_iff] at hrd
        obtain ⟨l, h1, rfl⟩ := hrd
        simp only [evC_reg, normalC] at he
        split at he
        · rename_i p h2
          obtain ⟨T1, s1⟩ := p
          injection he with he; injection he with e2 e3; injection e3 with e3 e4; subst e2; subst e3; subst e4
          refine wpIn_region (seq_sound hc (nt := nt) (l := l) ?_ h2 hf hs hnt fun g1 a1 w1 q1 q2 q3 q4 => hQ g1 a1 w1 q1 q2 ⟨[], q3, by rw [q3]; exact Mk.step q1 hs hd⟩ q4)
          obtain ⟨h3, h4⟩ := rdyX_al h1
          have : ∀ {l : List X} {r : List Nat}, l.length = r.length → (∀ (q : Nat) (i : Nat), r[q]? = some i → ∃ o x, ops[i]? = some o ∧ l[q]? = some x ∧ Al P nt ops o x) → AlL P nt ops r l := by
            intro l
            induction l with
            | nil => intro r hl _; cases r with
              | nil => trivial
              | cons => simp at hl
            | cons x l ihl => intro r hl h; cases r with
              | nil => simp at hl
              | cons i r =>
                obtain ⟨o, y, q1, q2, q3⟩ := h 0 i rfl
                simp at q2; subst q2
                refine ⟨⟨o, q1, q3⟩, ihl (by simpa using hl) fun q j hj => ?_⟩
                obtain ⟨o, y, q1, q2, q3⟩ := h (q + 1) j (by simpa using hj)
                exact ⟨o, y, q1, by simpa using q2, q3⟩
          refine this (by rw [h3]; simp) fun q i hq => ?_
          have hqi : q = i ∧ i < ops.size := by
            have hlt := (List.getElem?_eq_some_iff.1 hq).1
            simp at hlt
            simp [hlt] at hq
            exact ⟨hq, hq ▸ hlt⟩
          obtain ⟨rfl, hlt⟩ := hqi
          obtain ⟨x, h5, h6⟩ := h4 q ops[q] (by simp [hlt])
          exact ⟨ops[q], x, by simp [hlt], h5, h6.al⟩
        · cases he
      | true =>
        simp only [rdyC] at hrd
        split at hrd
        · rename_i l h1
          split at hrd
          · rename_i hst
            injection hrd with hrd; subst hrd
            simp only [evC_draw, normalC] at he
            split at he
            · rename_i p h2
              obtain ⟨T1, s1⟩ := p
              injection he with he; injection he with e2 e3; injection e3 with e3 e4; subst e2; subst e3; subst e4
              exact draw_sound hm hc h1 hst h2 hf hs hnt fun g1 a1 w1 q1 q2 q3 q4 => hQ g1 a1 w1 q1 q2 ⟨[], q3, by rw [q3]; exact Mk.step q1 hs hd⟩ q4
            · cases he
          · cases hrd
        · cases hrd
    | rangeFunc f ps ca cb =>
      simp only [rdyC] at hrd
      split at hrd
      · rename_i xf xa xb h1 h2 h3
        split at hrd
        · rename_i hcond
          injection hrd with hrd; subst hrd
          simp only [Bool.and_eq_true, List.all_eq_true, decide_eq_true_eq] at hcond
          rcases hnr with rfl | hnr
          · exact hR ih hn h1 h2 h3 hcond.1.1 hcond.1.2 (fun p hp => hcond.2 p (by simpa using hp)) he hf hs hnt hb hd hQ
          · simp [XC.noRange] at hnr
        · cases hrd
      · cases hrd
end
end Go.Ev
end
/- ev: calls, whole. No program. -/
section
namespace Go.Ev
open Go.RowKit Go.Own
variable {P : Program}
/-- What marks leave behind when they are taken. -/
structure Shut (base : Nat) (w w' : World) : Prop where
  size : w'.heap.size = w.heap.size
  os : w'.os = w.os
  tape : w'.tape = w.tape
  output : w'.output = w.output
  same : ∀ c, (c < base ∨ (∃ cs t f, w.heap[c]? = some (.cells cs t f)) ∨ w.heap.size ≤ c) → w'.heap[c]? = w.heap[c]?
theorem Shut.refl (base : Nat) (w : World) : Shut base w w := ⟨rfl, rfl, rfl, rfl, fun _ _ => rfl⟩
theorem Shut.trans {base : Nat} {a b c : World} (h : Shut base a b) (k : Shut base b c) : Shut base a c where
  size := k.size.trans h.size
  os := k.os.trans h.os
  tape := k.tape.trans h.tape
  output := k.output.trans h.output
  same := fun x hx => by
    have h1 := h.same x hx
    refine (k.same x ?_).trans h1
    rcases hx with hx | ⟨cs, t, f, hx⟩ | hx
    · exact .inl hx
    · exact .inr (.inl ⟨cs, t, f, h1.trans hx⟩)
    · exact .inr (.inr (by rw [h.size]; exact hx))
theorem shut_put {base D : Nat} {w : World} {o o' : Obj} (hb : base ≤ D) (h : w.heap[D]? = some o) (ho : ∀ c t f, o ≠ .cells c t f) : Shut base w (w.putObj D o') where
  size := by simp [World.putObj]
  os := rfl
  tape := rfl
  output := rfl
  same := fun c hc => by
    refine World.putObj_heap_other fun e => ?_
    subst e
    have hlt := (Array.getElem?_eq_some_iff.1 h).1
    rcases hc with hc | ⟨cs, t, f, hc⟩ | hc
    · omega
    · rw [h] at hc; injection hc with hc; exact ho _ _ _ hc
    · omega
theorem run_take {D : Nat} {w : World} (h : w.heap[D]? = some (.deferred (some []))) : (Instr.takeDeferred D).run P w = .ok [] (w.putObj D (.deferred none)) := by
  unfold Instr.takeDeferred
  simp [Sem.run_bind, getObj, setObj, Sem.run, h, World.putObj]
theorem leaves_marks {F : Fence} {n base : Nat} {fn : Func} {tmps : Array Value} {R : Ending → World → Prop} : ∀ {ds : List Deferred} {w : World}, Mk base w ds → (∀ w', Shut base w w' → ∃ v, (results fn tmps).run P w' = .ok v w' ∧ R (.returned v) w') → LeavesInM F n P fn tmps R ds .returning w
  | [], w, _, h => h w (Shut.refl base w)
  | d :: ds, w, ⟨⟨D, h1, h2, h3, h4⟩, h5⟩, h => by
    refine ⟨by simp, .inl ⟨D, w.putObj D (.deferred none), by rw [h1], run_take h3, ?_⟩⟩
    have hs := shut_put (o' := .deferred none) h2 h3 (by intro c t f e; cases e)
    refine leaves_marks (base := base) ?_ fun w' h6 => h w' (hs.trans h6)
    have : ∀ {l : List Deferred}, (∀ d' ∈ l, d'.target ≠ .collected D) → Mk base w l → Mk base (w.putObj D (.deferred none)) l := by
      intro l
      induction l with
      | nil => intro _ _; trivial
      | cons d' l ih =>
        rintro hne ⟨⟨D', k1, k2, k3, k4⟩, k5⟩
        refine ⟨⟨D', k1, k2, ?_, k4⟩, ih (fun x hx => hne x (by simp [hx])) k5⟩
        rw [World.putObj_heap_other]
        · exact k3
        · intro e; subst e
          exact hne d' (by simp) (by rw [k1])
    exact this h4 h5
theorem shut_cells {base : Nat} {w w' : World} (h : Shut base w w') {c : Nat} {cs : Array Value} {t : TypeId} {f : Nat × Nat} (hc : w.heap[c]? = some (.cells cs t f)) : w'.heap[c]? = some (.cells cs t f) := (h.same c (.inr (.inl ⟨cs, t, f, hc⟩))).trans hc
theorem shut_cell {base : Nat} {w w' : World} (h : Shut base w w') {p : Addr} {v : Value} (hc : w.cell? p = some v) : w'.cell? p = some v := by
  unfold World.cell? at hc ⊢
  split at hc
  · rename_i cs t f hb
    rw [shut_cells h hb]; exact hc
  · cases hc
theorem shut_bsz {base : Nat} {w w' : World} (h : Shut base w w') (c : Nat) : bsz w c ≤ bsz w' c := by
  unfold bsz
  split
  · rename_i cs t f hb
    rw [shut_cells h hb]; exact Nat.le_refl _
  · exact Nat.zero_le _
theorem rc_shut {base : Nat} {g : Gh} {w w' : World} (h : Shut base w w') {x : C} {v : Value} (hr : RC g w x v) : RC g w' x v := by
  cases x with
  | i k n => exact hr
  | b x => exact hr
  | ns => exact hr
  | v x => exact hr
  | dig n =>
    obtain ⟨h1, h2 | ⟨h2, c, off, cap, h3, h4, h5, h6, h7, h8⟩⟩ := hr
    · exact ⟨h1, .inl h2⟩
    · exact ⟨h1, .inr ⟨h2, c, off, cap, h3, h4, h5, h6, by rw [h.size]; exact h7, shut_cell h h8⟩⟩
  | dptr n =>
    obtain ⟨c, off, h3, h6, h7, h8⟩ := hr
    exact ⟨c, off, h3, h6, by rw [h.size]; exact h7, shut_cell h h8⟩
  | ptr k off => exact hr
  | sl k off len cap u =>
    obtain ⟨c, h1, h2, h3, h4⟩ := hr
    exact ⟨c, h1, h2, Nat.le_trans h3 (shut_bsz h _), h4⟩
  | fn f caps => exact hr
theorem rv_shut {base : Nat} {g : Gh} {w w' : World} (h : Shut base w w') {x : V} {v : Value} (hr : RV1 g w x v) : RV1 g w' x v := by
  cases x with
  | c x => exact rc_shut h hr
  | agg l =>
    obtain ⟨cs, h1, h2⟩ := hr
    exact ⟨cs, h1, h2.mono fun _ _ _ => rc_shut h⟩
theorem ra_shut {base : Nat} {g : Gh} {w w' : World} (h : Shut base w w') {x : A} {v : Value} (hr : RA g w x v) : RA g w' x v := by
  cases x with
  | v x => exact rv_shut h hr
  | tup l =>
    obtain ⟨cs, h1, h2⟩ := hr
    exact ⟨cs, h1, h2.mono fun _ _ _ => rv_shut h⟩
theorem Step.shut {W : Nat → Prop} {K K' : Mem} {g g' : Gh} {nx nx' : Nat} {w w' w2 : World} (h : Step W K g nx w K' g' nx' w') (hs : Shut w.heap.size w' w2) : Step W K g nx w K' g' nx' w2 :=
  { h with
    sim := ⟨fun b l hb => by
      obtain ⟨h1, h2, h3, cs, t, h4, h5, h6⟩ := h.sim.blk b l hb
      refine ⟨h1, h2, h3, cs, t, shut_cells hs h4, h5, fun i x hx => ?_⟩
      obtain ⟨v, h7, h8⟩ := h6 i x hx
      exact ⟨v, h7, rc_shut hs h8⟩, h.sim.inj, fun c hc => by rw [hs.size]; exact h.sim.dsz c hc⟩
    frame := fun c hc hf => (hs.same c (.inl hc)).trans (h.frame c hc hf)
    bs := fun c => Nat.le_trans (h.bs c) (shut_bsz hs c)
    size := by rw [hs.size]; exact h.size
    os := hs.os.trans h.os
    tape := hs.tape.trans h.tape
    output := hs.output.trans h.output }
/-- What the evaluator is told, against the model. -/
structure KnownOK (P : Program) (K : Known) : Prop where
  code : ∀ f xf, K.code f = some xf → ∃ fn, P.funcs[f]? = some fn ∧ rdyF P fn = some xf
  prim : ∀ f gf, K.prim f = some gf → (P.funcs[f]?).map (fun fn => (fn.name == "runtime.NumGoroutine", fn.body.isNone)) = some (false, false) ∧ ∀ args r, gf args = some r → r.free = true ∧
    ∀ (m : Nat → Nat) (D : Nat → Prop) (w : World) (vals : List Value), (∀ c, D c → c < w.heap.size) → All2 (RA ⟨m, D⟩ w) args vals →
      Calls P f vals.toArray w fun e w' => ∃ v, e = .returned v ∧ Below w.heap.size w w' ∧ RA ⟨m, fun c => D c ∨ (w.heap.size ≤ c ∧ c < w'.heap.size)⟩ w' r v
  spec : CallOK P K.spec
theorem rdyF_eq {fn : Func} {xf : XF} (h : rdyF P fn = some xf) : ∃ c, fn.body = some c ∧ (fn.name == "runtime.NumGoroutine") = false ∧ rdyC P fn.ntmps c = some xf.body ∧ rdyR P fn.results.toList = some xf.res := by
  unfold rdyF at h
  split at h
  · rename_i c hb
    split at h
    · rename_i b r h1 h2 h3
      injection h with h; subst h
      exact ⟨c, hb, h1, h2, h3⟩
    · cases h
  · cases h
theorem call_sound {K : Known} (hK : KnownOK P K) (k : Nat) (hc : CodeOK P (evC P K k)) : CallOK P (evCall K (evC P K k)) := by
  intro f args s r s' he
  unfold evCall at he
  split at he
  · rename_i gf hp
    obtain ⟨h1, h2⟩ := hK.prim f gf hp
    obtain ⟨h3, rfl⟩ := mv_same he
    obtain ⟨h4, h5⟩ := h2 args r h3
    refine ⟨h1, fun g w vals hs hr _ => ?_⟩
    refine (h5 g.m g.D w vals hs.dsz hr).mono ?_
    rintro e w' ⟨v, rfl, hb, hv⟩
    have hn := afree_names h4
    refine ⟨v, rfl, g.gone g w w', ⟨hs.gone_step (fun c h => .inl h) (fun c hlt => hb.block c hlt) hb.size hb.os hb.tape hb.output, fun _ h => h⟩, ?_, aname_lt.2 (by rw [hn]; intro b hb; cases hb)⟩
    refine ra_move (p := fun _ => False) (fun _ h => h.elim) (fun c hc => ?_) (fun _ _ _ => rfl) (Nat.le_refl _) (fun _ => Nat.le_refl _) (by rw [hn]; intro b hb; cases hb) hv
    rcases hc with h | h
    · exact .inl h
    · exact .inr (.inr h)
  · rename_i hp
    split at he
    · rename_i q hq
      injection he with he; subst he
      exact hK.spec f args s r s' hq
    split at he
    · rename_i xf hx
      obtain ⟨fn, h1, h2⟩ := hK.code f xf hx
      obtain ⟨c, h3, h4, h5, h6⟩ := rdyF_eq h2
      refine ⟨by rw [h1]; simp only [Option.map_some, h3, Option.isNone_some, h4], fun g w vals hs hr hlt => ?_⟩
      unfold callBody at he
      cases h7 : evC P K k xf.body (argsT 0 args) { H := s.H, nx := s.nx, lg := [] } with
      | none => rw [h7] at he; cases he
      | some p =>
        obtain ⟨ex, T1, s1⟩ := p
        rw [h7] at he
        have hfr : Fr g w s.nx (argsT 0 args) { tmps := vals.toArray ++ Array.replicate (fn.ntmps - vals.toArray.size) undef, defers := [] } := args_fr hr hlt
        have key : ∀ {v : A}, resultsA T1 s1 xf.res = some v → digEnd (K.dig f) s v s1 (oldOf s.nx s1.lg) = some (r, s') → (ex = .normal ∨ ex = .ret) →
            Calls P f vals.toArray w fun e w' => ∃ v, e = .returned v ∧ Good s g w r s' v w' := by
          intro v h8 h9 hex
          refine (callsFd (ro := none) (n := 1)).1 (callsIn_of_wp_marks h1 h3 trivial ?_ rfl)
          refine hc (base := w.heap.size) (s := { H := s.H, nx := s.nx, lg := [] }) (Nat.le_refl 1) h5 (.inl rfl) h7 hfr hs (by simp; omega) (Nat.le_refl _) trivial ?_
          intro g1 a1 w1 q1 q2 ⟨ms, q3, q4⟩ q5
          have hleave : LeavesInM (Fd none) 1 P fn a1.tmps (fun e w' => ∃ v, e = .returned v ∧ Good s g w r s' v w') a1.defers .returning w1 := by
            refine leaves_marks q4 fun w2 hw2 => ?_
            have hst : Step (· ∈ s1.lg) s.H.get g s.nx w s1.H.get g1 s1.nx w2 := q1.1.shut hw2
            have hf2 : Fr g1 w2 s1.nx T1 a1 := fun t x ht => ⟨ra_shut hw2 (q2 t x ht).1, (q2 t x ht).2⟩
            obtain ⟨u, c1, c2, c3⟩ := results_rel hf2 hst.sim h6 h8
            exact ⟨u, c1, u, rfl, dig_good hs hst c2 c3 h9⟩
          rcases hex with rfl | rfl <;> exact hleave
        cases ex with
        | exit id => cases he
        | normal =>
          simp only [afterCall] at he
          split at he
          · rename_i v h8; exact key h8 he (.inl rfl)
          · cases he
        | ret =>
          simp only [afterCall] at he
          split at he
          · rename_i v h8; exact key h8 he (.inr rfl)
          · cases he
    · cases he
/-- THE LAW: what the evaluator says of a call, the model does. -/
theorem ev_sound {K : Known} (hm : P.follows .mixedOrders = true) (hK : KnownOK P K) (hR : RangeOK P K) (k : Nat) : CallOK P (evCall K (evC P K k)) :=
  call_sound hK k (code_sound hm hR (fun k h => call_sound hK k h) k).1
/-- A call without arguments, out of nothing. -/
theorem ev_true {K : Known} (hm : P.follows .mixedOrders = true) (hK : KnownOK P K) (hR : RangeOK P K) {k f : Nat} {n : Nat} (he : (match evCall K (evC P K k) f [] { H := .e, nx := n, lg := [] } with | some (.v (.c (.b true)), _) => true | _ => false) = true) (w : World) :
    Calls P f #[] w fun e w' => e = .returned (.bool true) ∧ Below w.heap.size w w' := by
  split at he
  · rename_i s' h1
    obtain ⟨_, h2⟩ := ev_sound hm hK hR k f [] _ _ _ h1
    have hs : Sim (Tr.e : Tr (List C)).get { m := fun _ => 0, D := fun _ => False } n w := ⟨fun b l h => by simp [Tr.get_e] at h, fun b b' h => absurd (Tr.get_e b) h, fun c h => h.elim⟩
    refine (h2 _ w [] hs trivial (fun a ha => by cases ha)).mono ?_
    rintro e w' ⟨v, rfl, g', h3, h4, _⟩
    have hv : v = .bool true := h4
    refine ⟨by rw [hv], h3.1.os, h3.1.tape, h3.1.output, h3.1.size, fun c hc => h3.1.frame c hc fun b _ hk => absurd (Tr.get_e b) hk⟩
  · cases he
end Go.Ev
end
/- ev: functions by their own run. No program. -/
section
namespace Go.Ev
open Go.RowKit Go.Own
variable {P : Program}
section
variable {β : Type}
theorem forceN_eq (n : Nat) (K : Nat → β) : forceN n K = K n := by cases n <;> rfl
/-- A cell in normal form: no digits at all are the digits of nought. -/
def normC : C → C
  | .ns => .dig 0
  | x => x
theorem forceC_eq (x : C) (K : C → β) : forceC x K = K (normC x) := by
  unfold forceC
  split
  · exact forceN_eq _ _
  · exact forceN_eq _ _
  · rfl
  · rfl
  · exact forceN_eq _ _
  · rfl
  · rename_i h1 h2 h3 h4 h5 h6
    cases x <;> first | rfl | exact absurd rfl h6
theorem forceL_eq : ∀ (l : List C) (K : List C → β), forceL l K = K (l.map normC)
  | [], K => rfl
  | x :: l, K => by simp only [forceL, forceC_eq, forceL_eq l, List.map_cons]
def normV : V → V
  | .c x => .c (normC x)
  | .agg l => .agg (l.map normC)
theorem forceV_eq (x : V) (K : V → β) : forceV x K = K (normV x) := by
  cases x with
  | c x => exact forceC_eq x (fun x => K (.c x))
  | agg l => exact forceL_eq l (fun l => K (.agg l))
theorem forceVs_eq : ∀ (l : List V) (K : List V → β), forceVs l K = K (l.map normV)
  | [], K => rfl
  | x :: l, K => by simp only [forceVs, forceV_eq, forceVs_eq l, List.map_cons]
def normA : A → A
  | .v x => .v (normV x)
  | .tup l => .tup (l.map normV)
theorem forceA_eq (x : A) (K : A → β) : forceA x K = K (normA x) := by
  cases x with
  | v x => exact forceV_eq x (fun x => K (.v x))
  | tup l => exact forceVs_eq l (fun l => K (.tup l))
theorem forceAs_eq : ∀ (l : List A) (K : List A → β), forceAs l K = K (l.map normA)
  | [], K => rfl
  | x :: l, K => by simp only [forceAs, forceA_eq, forceAs_eq l, List.map_cons]
end
theorem norm_rc {g : Gh} {w : World} {x : C} {v : Value} (h : RC g w x v) : RC g w (normC x) v := by
  cases x with
  | ns => exact ⟨by decide, .inl ⟨rfl, h⟩⟩
  | _ => exact h
theorem norm_all {g : Gh} {w : World} : ∀ {l : List C} {vs : List Value}, All2 (RC g w) l vs → All2 (RC g w) (l.map normC) vs
  | [], [], _ => trivial
  | _ :: _, _ :: _, h => ⟨norm_rc h.1, norm_all h.2⟩
  | [], _ :: _, h => h.elim
  | _ :: _, [], h => h.elim
theorem norm_rv {g : Gh} {w : World} {x : V} {v : Value} (h : RV1 g w x v) : RV1 g w (normV x) v := by
  cases x with
  | c x => exact norm_rc h
  | agg l =>
    obtain ⟨cs, h1, h2⟩ := h
    exact ⟨cs, h1, norm_all h2⟩
theorem norm_rvs {g : Gh} {w : World} : ∀ {l : List V} {vs : List Value}, All2 (RV1 g w) l vs → All2 (RV1 g w) (l.map normV) vs
  | [], [], _ => trivial
  | _ :: _, _ :: _, h => ⟨norm_rv h.1, norm_rvs h.2⟩
  | [], _ :: _, h => h.elim
  | _ :: _, [], h => h.elim
theorem norm_ra {g : Gh} {w : World} {x : A} {v : Value} (h : RA g w x v) : RA g w (normA x) v := by
  cases x with
  | v x => exact norm_rv h
  | tup l =>
    obtain ⟨cs, h1, h2⟩ := h
    exact ⟨cs, h1, norm_rvs h2⟩
theorem norm_ras {g : Gh} {w : World} : ∀ {l : List A} {vs : List Value}, All2 (RA g w) l vs → All2 (RA g w) (l.map normA) vs
  | [], [], _ => trivial
  | _ :: _, _ :: _, h => ⟨norm_ra h.1, norm_ras h.2⟩
  | [], _ :: _, h => h.elim
  | _ :: _, [], h => h.elim
/-- A function by its own run is what the model's function is. -/
theorem memo_sound {K : Known} (hm : P.follows .mixedOrders = true) (hK : KnownOK P K) (hR : RangeOK P K) {k f : Nat} {args : List A} {r : A} (he : memo P K k f args = some r) :
    (P.funcs[f]?).map (fun fn => (fn.name == "runtime.NumGoroutine", fn.body.isNone)) = some (false, false) ∧ r.free = true ∧
    ∀ (m : Nat → Nat) (D : Nat → Prop) (w : World) (vals : List Value), (∀ c, D c → c < w.heap.size) → All2 (RA ⟨m, D⟩ w) args vals →
      Calls P f vals.toArray w fun e w' => ∃ v, e = .returned v ∧ Below w.heap.size w w' ∧ RA ⟨m, fun c => D c ∨ (w.heap.size ≤ c ∧ c < w'.heap.size)⟩ w' r v := by
  unfold memo at he
  rw [forceAs_eq] at he
  have he : memoRun P K k f (args.map normA) = some r := by
    unfold optId at he
    split at he
    · rename_i v h; rw [h]; exact he
    · cases he
  unfold memoRun at he
  split at he
  · rename_i hfree
    unfold memoEnd at he
    split at he
    · rename_i v s' h1
      rw [forceA_eq] at he
      unfold keepFree at he
      split at he
      · rename_i hvf
        injection he with he; subst he
        obtain ⟨h2, h3⟩ := ev_sound hm hK hR k f _ _ _ _ h1
        refine ⟨h2, hvf, fun m D w vals hD hr => ?_⟩
        have hs : Sim (Tr.e : Tr (List C)).get ⟨m, D⟩ 0 w := ⟨fun b l h => by simp [Tr.get_e] at h, fun b b' h => absurd (Tr.get_e b) h, hD⟩
        refine (h3 ⟨m, D⟩ w vals hs (norm_ras hr) (fun a ha => aname_lt.2 ?_)).mono ?_
        · rw [afree_names (List.all_eq_true.1 hfree a ha)]; intro b hb; cases hb
        · rintro e w' ⟨u, rfl, g', h4, h5, _⟩
          have hn := afree_names hvf
          refine ⟨u, rfl, ⟨h4.1.os, h4.1.tape, h4.1.output, h4.1.size, fun c hc => h4.1.frame c hc fun b _ hk => absurd (Tr.get_e b) hk⟩, ?_⟩
          refine ra_move (g1 := g') (w := w') (p := fun _ => False) (fun _ h => h.elim) (fun c hc => ?_) (fun _ _ _ => rfl) (Nat.le_refl _) (fun _ => Nat.le_refl _) (by rw [hn]; intro b hb; cases hb) (norm_ra h5)
          rcases h4.1.dnew c hc with h | h
          · exact .inl h
          · exact .inr ⟨h, h4.1.sim.dsz c hc⟩
      · cases he
    · cases he
  · cases he
/-- With some functions by their own run. -/
theorem with_ok {K : Known} (hm : P.follows .mixedOrders = true) (hK : KnownOK P K) (hR : RangeOK P K) {k : Nat} {fs : FuncId → Bool} (hfs : ∀ f, fs f = true → (P.funcs[f]?).map (fun fn => (fn.name == "runtime.NumGoroutine", fn.body.isNone)) = some (false, false)) : KnownOK P (K.with P k fs) where
  code := hK.code
  prim := fun f gf h => by
    simp only [Known.with] at h
    split at h
    · rename_i hf
      injection h with h; subst h
      exact ⟨hfs f hf, fun args r he => ⟨(memo_sound hm hK hR he).2.1, (memo_sound hm hK hR he).2.2⟩⟩
    · exact hK.prim f gf h
  spec := hK.spec
theorem range_none {K : Known} (h : ∀ f c s, K.iter f c s = none) : RangeOK P K := by
  intro k n nt base f ps ca cb xf xa xb T T' s s' ex g w a Q _ _ _ _ _ _ _ _ he
  simp only [evC_range, rangeC] at he
  split at he
  · rw [h] at he; cases he
  · cases he
end Go.Ev
end
/- ev: tables of calls that were run once: look-up, and that it is sound. No program. -/
section
namespace Go.Ev
open Go.RowKit Go.Own
/-- A call that was run: its function, its arguments, what it answers. -/
structure Ent where
  f : Nat
  args : List A
  res : A
noncomputable section
/-! equality and a key, by recursors -/
def eqLR {α β : Type} (e : α → β → Bool) (l : List α) : List β → Bool := List.rec (motive := fun _ => List β → Bool) (fun r => List.rec true (fun _ _ _ => false) r) (fun x _ ih r => List.rec false (fun y r' _ => Bool.rec false (ih r') (e x y)) r) l
/-- From behind. -/
def eqLT {α β : Type} (e : α → β → Bool) (l : List α) : List β → Bool := List.rec (motive := fun _ => List β → Bool) (fun r => List.rec true (fun _ _ _ => false) r) (fun x _ ih r => List.rec false (fun y r' _ => Bool.rec false (e x y) (ih r')) r) l
def eqIR (x y : Int) : Bool := Int.rec (motive := fun _ => Bool) (fun n => Int.rec (motive := fun _ => Bool) (fun m => Nat.beq n m) (fun _ => false) y) (fun n => Int.rec (motive := fun _ => Bool) (fun _ => false) (fun m => Nat.beq n m) y) x
def eqBR (x y : Bool) : Bool := Bool.rec (Bool.rec true false y) y x
/-- Cells that name no memory; no digits at all are the digits of nought. -/
def eqCN (x y : C) : Bool := C.rec (motive := fun _ => Bool)
  (fun k n => C.rec (motive := fun _ => Bool) (fun k' n' => Bool.rec false (eqIR n n') (eqK k k')) (fun _ => false) false (fun _ => false) (fun _ => false) (fun _ _ => false) (fun _ _ _ _ _ => false) (fun _ _ => false) (fun _ => false) y)
  (fun b => C.rec (motive := fun _ => Bool) (fun _ _ => false) (fun b' => eqBR b b') false (fun _ => false) (fun _ => false) (fun _ _ => false) (fun _ _ _ _ _ => false) (fun _ _ => false) (fun _ => false) y)
  (C.rec (motive := fun _ => Bool) (fun _ _ => false) (fun _ => false) false (fun m => Nat.beq m 0) (fun _ => false) (fun _ _ => false) (fun _ _ _ _ _ => false) (fun _ _ => false) (fun _ => false) y)
  (fun n => C.rec (motive := fun _ => Bool) (fun _ _ => false) (fun _ => false) false (fun m => Nat.beq n m) (fun _ => false) (fun _ _ => false) (fun _ _ _ _ _ => false) (fun _ _ => false) (fun _ => false) y)
  (fun _ => false) (fun _ _ => false) (fun _ _ _ _ _ => false) (fun _ _ => false) (fun _ => false) x
def eqVN (x y : V) : Bool := V.rec (motive := fun _ => Bool) (fun c => V.rec (motive := fun _ => Bool) (fun d => eqCN c d) (fun _ => false) y) (fun l => V.rec (motive := fun _ => Bool) (fun _ => false) (fun r => eqLR eqCN l r) y) x
def eqAN (x y : A) : Bool := A.rec (motive := fun _ => Bool) (fun v => A.rec (motive := fun _ => Bool) (fun u => eqVN v u) (fun _ => false) y) (fun l => A.rec (motive := fun _ => Bool) (fun _ => false) (fun r => eqLR eqVN l r) y) x
def keyC (x : C) : Nat := C.rec (motive := fun _ => Nat) (fun _ n => Int.rec (motive := fun _ => Nat) (fun n => Nat.add n 3) (fun n => Nat.add n 211) n) (fun b => Bool.rec 1 2 b) 5 (fun n => Nat.add n 5) (fun _ => 0) (fun _ _ => 0) (fun _ _ _ _ _ => 0) (fun _ _ => 0) (fun _ => 0) x
def keyL (l : List C) : Nat → Nat := List.rec (motive := fun _ => Nat → Nat) (fun h => h) (fun x _ ih h => ih (Nat.mod (Nat.add (Nat.mul h 31) (keyC x)) 2039)) l
def keyV (x : V) (h : Nat) : Nat := V.rec (motive := fun _ => Nat) (fun c => Nat.mod (Nat.add (Nat.mul h 31) (keyC c)) 2039) (fun l => keyL l h) x
def keyA (x : A) (h : Nat) : Nat := A.rec (motive := fun _ => Nat) (fun v => keyV v h) (fun _ => h) x
def keyAs (l : List A) : Nat → Nat := List.rec (motive := fun _ => Nat → Nat) (fun h => h) (fun x _ ih h => ih (keyA x h)) l
def findE (f : Nat) (args : List A) (l : List Ent) : Option A := List.rec (motive := fun _ => Option A) none (fun e _ ih => Bool.rec ih (Bool.rec ih (some e.res) (eqLR eqAN args e.args)) (Nat.beq e.f f)) l
def bucket (x : Option (List Ent)) : List Ent := Option.rec [] (fun b => b) x
def addE (e : Ent) (t : Tr (List Ent)) : Tr (List Ent) := t.set depth (keyAs e.args e.f) (some (e :: bucket (t.get (keyAs e.args e.f))))
/-- A table. -/
def tabOf (l : List Ent) : Tr (List Ent) := List.rec (motive := fun _ => Tr (List Ent)) .e (fun e _ t => addE e t) l
def look (t : Tr (List Ent)) (f : Nat) (args : List A) : Option A := findE f args (bucket (t.get (keyAs args f)))
def Known.tab (K : Known) (lv : List Nat) (t : Tr (List Ent)) : Known := { K with prim := fun f => match inL lv f with | true => some (look t f) | false => K.prim f }
/-- An entry, run again. -/
def chkE (P : Program) (K : Known) (k : Nat) (e : Ent) : Bool := match memo P K k e.f e.args with | some r => eqAN r e.res | none => false
end
/-! the laws -/
theorem eqLR_eq {α β : Type} {e : α → β → Bool} {R : α → β → Prop} (he : ∀ a b, e a b = true → R a b) : ∀ {l : List α} {r : List β}, eqLR e l r = true → All2 R l r
  | [], [], _ => trivial
  | [], _ :: _, h => by cases h
  | _ :: _, [], h => by cases h
  | x :: l, y :: r, h => by
    have h : (Bool.rec false (eqLR e l r) (e x y) : Bool) = true := h
    cases hx : e x y with
    | false => rw [hx] at h; cases h
    | true => rw [hx] at h; exact ⟨he _ _ hx, eqLR_eq he h⟩
theorem eqLT_eq {α β : Type} {e : α → β → Bool} {R : α → β → Prop} (he : ∀ a b, e a b = true → R a b) : ∀ {l : List α} {r : List β}, eqLT e l r = true → All2 R l r
  | [], [], _ => trivial
  | [], _ :: _, h => by cases h
  | _ :: _, [], h => by cases h
  | x :: l, y :: r, h => by
    have h : (Bool.rec false (e x y) (eqLT e l r) : Bool) = true := h
    cases hx : eqLT e l r with
    | false => rw [hx] at h; cases h
    | true => rw [hx] at h; exact ⟨he _ _ h, eqLT_eq he hx⟩
theorem all2_eq {α : Type} : ∀ {l r : List α}, All2 (fun a b => a = b) l r → l = r
  | [], [], _ => rfl
  | _ :: _, _ :: _, h => by rw [h.1, all2_eq h.2]
  | [], _ :: _, h => h.elim
  | _ :: _, [], h => h.elim
theorem all2_map {α β : Type} {f : α → β} : ∀ {l : List α} {r : List β}, All2 (fun a b => f a = b) l r → l.map f = r
  | [], [], _ => rfl
  | _ :: _, _ :: _, h => by rw [List.map_cons, h.1, all2_map h.2]
  | [], _ :: _, h => h.elim
  | _ :: _, [], h => h.elim
theorem eqIR_eq {x y : Int} (h : eqIR x y = true) : x = y := by
  cases x <;> cases y
  · rw [Nat.eq_of_beq_eq_true h]
  · cases h
  · cases h
  · rw [Nat.eq_of_beq_eq_true h]
theorem eqCN_eq {x y : C} (h : eqCN x y = true) : normC x = y := by
  cases x with
  | i k n =>
    cases y with
    | i k' n' =>
      have h : (Bool.rec false (eqIR n n') (eqK k k') : Bool) = true := h
      cases hk : eqK k k' with
      | false => rw [hk] at h; cases h
      | true => rw [hk] at h; rw [eqK_eq hk, eqIR_eq h]; rfl
    | _ => cases h
  | b x =>
    cases y with
    | b y => cases x <;> cases y <;> first | rfl | cases h
    | _ => cases h
  | ns =>
    cases y with
    | dig m => rw [Nat.eq_of_beq_eq_true h]; rfl
    | _ => cases h
  | dig n =>
    cases y with
    | dig m => rw [Nat.eq_of_beq_eq_true h]; rfl
    | _ => cases h
  | _ => cases h
theorem eqVN_eq {x y : V} (h : eqVN x y = true) : normV x = y := by
  cases x <;> cases y
  · exact congrArg V.c (eqCN_eq h)
  · cases h
  · cases h
  · exact congrArg V.agg (all2_map (eqLR_eq (fun _ _ => eqCN_eq) h))
theorem eqAN_eq {x y : A} (h : eqAN x y = true) : normA x = y := by
  cases x <;> cases y
  · exact congrArg A.v (eqVN_eq h)
  · cases h
  · cases h
  · exact congrArg A.tup (all2_map (eqLR_eq (fun _ _ => eqVN_eq) h))
theorem eqAN_args {l r : List A} (h : eqLR eqAN l r = true) : l.map normA = r := all2_map (eqLR_eq (fun _ _ => eqAN_eq) h)
theorem findE_some {f : Nat} {args : List A} {r : A} : ∀ {l : List Ent}, findE f args l = some r → ∃ e ∈ l, e.f = f ∧ args.map normA = e.args ∧ e.res = r
  | [], h => by cases h
  | e :: l, h => by
    have h : (Bool.rec (findE f args l) (Bool.rec (findE f args l) (some e.res) (eqLR eqAN args e.args)) (Nat.beq e.f f) : Option A) = some r := h
    have go : findE f args l = some r → ∃ e' ∈ e :: l, e'.f = f ∧ args.map normA = e'.args ∧ e'.res = r := fun h => by
      obtain ⟨e', h1, h2⟩ := findE_some h
      exact ⟨e', List.mem_cons_of_mem _ h1, h2⟩
    cases hf : Nat.beq e.f f with
    | false => rw [hf] at h; exact go h
    | true =>
      rw [hf] at h
      cases ha : eqLR eqAN args e.args with
      | false => rw [ha] at h; exact go h
      | true =>
        rw [ha] at h
        injection h with h
        exact ⟨e, List.mem_cons_self .., Nat.eq_of_beq_eq_true hf, eqAN_args ha, h⟩
theorem tabOf_mem : ∀ {l : List Ent} {k : Nat} {b : List Ent}, (tabOf l).get k = some b → ∀ e ∈ b, e ∈ l
  | [], k, b, h, e, he => by cases h
  | x :: l, k, b, h, e, he => by
    have h : (addE x (tabOf l)).get k = some b := h
    rcases Tr.get_set _ _ _ _ _ _ h with ⟨_, h2⟩ | ⟨_, h2⟩
    · injection h2 with h2
      subst h2
      rcases List.mem_cons.1 he with rfl | he
      · exact List.mem_cons_self ..
      · refine List.mem_cons_of_mem _ ?_
        cases hg : (tabOf l).get (keyAs x.args x.f) with
        | none => rw [hg] at he; cases he
        | some b' => rw [hg] at he; exact tabOf_mem hg e he
    · exact List.mem_cons_of_mem _ (tabOf_mem h2 e he)
theorem look_some {l : List Ent} {f : Nat} {args : List A} {r : A} (h : look (tabOf l) f args = some r) : ∃ e ∈ l, e.f = f ∧ args.map normA = e.args ∧ e.res = r := by
  obtain ⟨e, h1, h2⟩ := findE_some h
  refine ⟨e, ?_, h2⟩
  cases hg : (tabOf l).get (keyAs args f) with
  | none => rw [hg] at h1; cases h1
  | some b => rw [hg] at h1; exact tabOf_mem hg e h1
variable {P : Program}
/-- What an entry says of the model. -/
def EntOK (P : Program) (e : Ent) : Prop := (P.funcs[e.f]?).map (fun fn => (fn.name == "runtime.NumGoroutine", fn.body.isNone)) = some (false, false) ∧ e.res.free = true ∧
  ∀ (m : Nat → Nat) (D : Nat → Prop) (w : World) (vals : List Value), (∀ c, D c → c < w.heap.size) → All2 (RA ⟨m, D⟩ w) e.args vals →
    Calls P e.f vals.toArray w fun o w' => ∃ v, o = .returned v ∧ Below w.heap.size w w' ∧ RA ⟨m, fun c => D c ∨ (w.heap.size ≤ c ∧ c < w'.heap.size)⟩ w' e.res v
theorem normC_idem (x : C) : (normC x).free = x.free := by cases x <;> rfl
theorem freeL_norm : ∀ (l : List C), (l.map normC).all C.free = l.all C.free
  | [] => rfl
  | x :: l => by simp [freeL_norm l, normC_idem]
theorem freeV_norm (x : V) : (normV x).free = x.free := by
  cases x with
  | c x => exact normC_idem x
  | agg l => exact freeL_norm l
theorem freeVs_norm : ∀ (l : List V), (l.map normV).all V.free = l.all V.free
  | [] => rfl
  | x :: l => by simp [freeVs_norm l, freeV_norm]
theorem freeA_norm (x : A) : (normA x).free = x.free := by
  cases x with
  | v x => exact freeV_norm x
  | tup l => exact freeVs_norm l
theorem chkE_ok {K : Known} (hm : P.follows .mixedOrders = true) (hK : KnownOK P K) (hR : RangeOK P K) {k : Nat} {e : Ent} (h : chkE P K k e = true) : EntOK P e := by
  unfold chkE at h
  split at h
  · rename_i r hr
    obtain ⟨h1, h2, h3⟩ := memo_sound hm hK hR hr
    have he := eqAN_eq h
    refine ⟨h1, by rw [← he, freeA_norm]; exact h2, fun m D w vals hD ha => (h3 m D w vals hD ha).mono ?_⟩
    rintro o w' ⟨v, h4, h5, h6⟩
    exact ⟨v, h4, h5, by rw [← he]; exact norm_ra h6⟩
  · cases h
theorem chkEs_ok {K : Known} (hm : P.follows .mixedOrders = true) (hK : KnownOK P K) (hR : RangeOK P K) {k : Nat} {l : List Ent} (h : l.all (chkE P K k) = true) : ∀ e ∈ l, EntOK P e := fun e he => chkE_ok hm hK hR (List.all_eq_true.1 h e he)
/-- With a table of entries that were run. -/
theorem tab_ok {K : Known} (hK : KnownOK P K) {lv : List Nat} {l : List Ent} (hl : ∀ e ∈ l, EntOK P e) (hlv : ∀ f, inL lv f = true → (P.funcs[f]?).map (fun fn => (fn.name == "runtime.NumGoroutine", fn.body.isNone)) = some (false, false)) : KnownOK P (K.tab lv (tabOf l)) where
  code := hK.code
  prim := fun f gf h => by
    simp only [Known.tab] at h
    split at h
    · rename_i hf
      injection h with h; subst h
      refine ⟨hlv f hf, fun args r hr => ?_⟩
      obtain ⟨e, h1, h2, h3, h4⟩ := look_some hr
      obtain ⟨_, h6, h7⟩ := hl e h1
      subst h2 h4
      exact ⟨h6, fun m D w vals hD ha => h7 m D w vals hD (by rw [← h3]; exact norm_ras ha)⟩
    · exact hK.prim f gf h
  spec := hK.spec
end Go.Ev
end
