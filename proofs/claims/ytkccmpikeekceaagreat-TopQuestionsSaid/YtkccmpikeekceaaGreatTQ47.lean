/- ev: loops over functions. No program. -/
import Derived.Test.YtkccmpikeekceaaGreatTQ20
import Derived.RangeFuncNested
import Derived.RangeFuncBound
import Derived.RangeFuncCalls
import Derived.RangeFuncLeaves
import Derived.Shelf.Abstract
import Derived.WalkKit
import Derived.OwnWalkIn
import Derived.TacticsInMore
import Derived.LoopNIn
import Derived.LoopIn
import Derived.Test.YtkccmpikeekceaaGreatProg
import Derived.Test.YtkccmpikeekceaaGreatTQ14
/- ev: loops over functions. No program. -/
section
namespace Go.Ev
open Go.RowKit Go.Own
variable {P : Program}
/-- What an iterator does: it hands over the rows, one behind another; memory may only grow on its side; the blocks `B` are to be kept. -/
def SeqG (P : Program) (f : FuncId) (lb : Array Value) (vals : List (List Value)) (B : Nat → Prop) (w : World) : Prop :=
  ∀ (n l : Nat) (J : Nat → World → Prop) (Jx : World → Prop) (W : World), (∀ c, B c → W.heap[c]? = w.heap[c]?) → w.heap.size ≤ W.heap.size →
    (∀ k A A', J k A → Below A.heap.size A A' → J k A') → (∀ A A', Jx A → Below A.heap.size A A' → Jx A') →
    (∀ k x W1, J k W1 → vals[k]? = some x → YieldAt (Fd none) n P l x.toArray W1 fun e W' => (e = .returned (.bool true) ∧ J (k + 1) W' ∧ (∀ c, B c → W'.heap[c]? = W1.heap[c]?) ∧ W1.heap.size ≤ W'.heap.size) ∨ (e = .returned (.bool false) ∧ Jx W')) →
    J 0 W → CallsIn (Fd none) (n + 1) P f (#[.func (.yield l) #[] #[]] ++ lb) W fun e W' => (∃ v, e = .returned v) ∧ (J vals.length W' ∨ Jx W')
/-- What the evaluator is told of iterators. -/
def IterOK (P : Program) (K : Known) : Prop :=
  ∀ f caps s xs pn g w, K.iter f caps s = some (xs, pn) → Sim s.H.get g s.nx w → (∀ p ∈ caps, p.1 < s.nx) →
    (∀ args, ∀ w, (callFunc f args).run P w = .ok (.enter f args) w) ∧ (∀ b ∈ pn, s.H.get b ≠ none) ∧ (∀ x ∈ xs, ∀ a ∈ x, a.lt s.nx) ∧
    ∃ vals : List (List Value), All2 (All2 (RA g w)) xs vals ∧ SeqG P f (caps.map (capV g)).toArray vals (fun c => ∃ b ∈ pn, g.m b = c) w
theorem bindT_fr {g : Gh} {w : World} {nx : Nat} : ∀ {ps : List Tmp} {args : List A} {vals : List Value} {T : Tr A} {a : Act}, Fr g w nx T a → All2 (RA g w) args vals → (∀ x ∈ args, x.lt nx) → (∀ p ∈ ps, p < a.tmps.size) →
    Fr g w nx (bindT T ps args) { a with tmps := (ps.zip vals).foldl (fun t (q : Nat × Value) => t.setIfInBounds q.1 q.2) a.tmps } ∧ ((ps.zip vals).foldl (fun t (q : Nat × Value) => t.setIfInBounds q.1 q.2) a.tmps).size = a.tmps.size
  | [], args, vals, T, a, hf, _, _, _ => by simpa [bindT] using hf
  | p :: ps, [], [], T, a, hf, _, _, _ => by simpa [bindT] using hf
  | p :: ps, x :: args, v :: vals, T, a, hf, hr, hl, hp => by
    have h1 : Fr g w nx (putT T (some p) x) (a.put (some p) v) := hf.put hr.1 (hl x (by simp)) (fun d e => by injection e with e; subst e; exact hp p (by simp))
    have h2 := bindT_fr (ps := ps) h1 hr.2 (fun y hy => hl y (by simp [hy])) (fun q hq => by rw [put_size]; exact hp q (by simp [hq]))
    refine ⟨h2.1, ?_⟩
    have h3 := h2.2
    rw [put_size] at h3
    exact h3
  | _ :: _, [], _ :: _, _, _, _, h, _, _ => h.elim
  | _ :: _, _ :: _, [], _, _, _, h, _, _ => h.elim
theorem below_shut {w w' : World} (_h : Below w.heap.size w w') : ∀ {base : Nat}, base = 0 → True := fun _ => trivial
theorem Step.grow {W : Nat → Prop} {K K' : Mem} {g g' : Gh} {nx nx' : Nat} {w w' w2 : World} (h : Step W K g nx w K' g' nx' w') (hb : Below w'.heap.size w' w2) : Step W K g nx w K' g' nx' w2 := by
  have hbs : ∀ c, bsz w' c ≤ bsz w2 c := by
    intro c
    unfold bsz
    rcases Nat.lt_or_ge c w'.heap.size with h | h
    · rw [hb.block c h]; exact Nat.le_refl _
    · rw [Array.getElem?_eq_none h]; exact Nat.zero_le _
  have hlt : ∀ b l, K' b = some l → g'.m b < w'.heap.size := fun b l hk => by
    obtain ⟨_, _, _, cs', t', e, _⟩ := h.sim.blk b l hk
    exact (Array.getElem?_eq_some_iff.1 e).1
  exact { h with
    sim := ⟨fun b l hk => by
      obtain ⟨h1, h2, h3, cs, t, h4, h5, h6⟩ := h.sim.blk b l hk
      refine ⟨h1, h2, h3, cs, t, by rw [hb.block _ (hlt b l hk)]; exact h4, h5, fun i x hx => ?_⟩
      obtain ⟨v, h7, h8⟩ := h6 i x hx
      exact ⟨v, h7, rc_move (p := fun _ => True) (fun _ _ => rfl) (fun _ h => h) (fun c _ hc => hb.block c hc) hb.size hbs (fun _ _ => trivial) h8⟩, h.sim.inj, fun c hc => Nat.lt_of_lt_of_le (h.sim.dsz c hc) hb.size⟩
    frame := fun c hc hf => (hb.block c (Nat.lt_of_lt_of_le hc h.size)).trans (h.frame c hc hf)
    bs := fun c => Nat.le_trans (h.bs c) (hbs c)
    size := Nat.le_trans h.size hb.size
    os := hb.os.trans h.os
    tape := hb.tape.trans h.tape
    output := hb.output.trans h.output }
theorem Fr.grow {g : Gh} {w w' : World} {nx : Nat} {T : Tr A} {a : Act} (h : Fr g w nx T a) (hb : Below w.heap.size w w') : Fr g w' nx T a := by
  intro t x ht
  obtain ⟨h1, h2⟩ := h t x ht
  refine ⟨ra_move (p := fun _ => True) (fun _ _ => rfl) (fun _ h => h) (fun c _ hc => hb.block c hc) hb.size (fun c => ?_) (fun _ _ => trivial) h1, h2⟩
  unfold bsz
  rcases Nat.lt_or_ge c w.heap.size with h | h
  · rw [hb.block c h]; exact Nat.le_refl _
  · rw [Array.getElem?_eq_none h]; exact Nat.zero_le _
theorem Fr.shut {base : Nat} {g : Gh} {w w' : World} {nx : Nat} {T : Tr A} {a : Act} (h : Fr g w nx T a) (hs : Shut base w w') : Fr g w' nx T a := fun t x ht => ⟨ra_shut hs (h t x ht).1, (h t x ht).2⟩
theorem Sim.shut {K : Mem} {base : Nat} {g : Gh} {nx : Nat} {w w' : World} (h : Sim K g nx w) (hs : Shut base w w') : Sim K g nx w' :=
  ⟨fun b l hb => by
    obtain ⟨h1, h2, h3, cs, t, h4, h5, h6⟩ := h.blk b l hb
    refine ⟨h1, h2, h3, cs, t, shut_cells hs h4, h5, fun i x hx => ?_⟩
    obtain ⟨v, h7, h8⟩ := h6 i x hx
    exact ⟨v, h7, rc_shut hs h8⟩, h.inj, fun c hc => by rw [hs.size]; exact h.dsz c hc⟩
theorem reach_sub {H : Tr (List C)} : ∀ {n : Nat} {r : List Nat} {K : Tr (List C)}, (∀ b x, K.get b = some x → H.get b = some x) → ∀ b x, (reach H n r K).get b = some x → H.get b = some x
  | 0, _, K, h => h
  | _ + 1, [], K, h => h
  | n + 1, k :: r, K, h => by
    intro b x hb
    simp only [reach] at hb
    split at hb
    · rename_i l h1 h2
      refine reach_sub (fun b x hb => ?_) b x hb
      rcases Tr.get_set _ _ _ _ _ _ hb with ⟨rfl, h3⟩ | ⟨_, h3⟩
      · injection h3 with h3; subst h3; exact h2
      · exact h b x h3
    · exact reach_sub h b x hb
theorem gc_step {s s1 : S} {g g1 : Gh} {w w1 : World} {T : Tr A} (h : Step (· ∈ s1.lg) s.H.get g s.nx w s1.H.get g1 s1.nx w1) (hs : Sim s.H.get g s.nx w) : Step (· ∈ (gcS T s1).lg) s.H.get g s.nx w (gcS T s1).H.get g1 (gcS T s1).nx w1 :=
  h.trans hs (h.sim.less_step fun b x hb => reach_sub (H := s1.H) (K := .e) (fun b x h => by simp [Tr.get_e] at h) b x hb) (fun _ h => h)
section
variable {K : Known}
/-- THE LAW for a loop over a function. -/
theorem range_ok (hI : IterOK P K) : RangeOK P K := by
  intro k n nt base f ps ca cb xf xa xb T T' s s' ex g w a Q hc hn h1 h2 h3 hna hnb hps he hf hs hnt hb hd hQ
  simp only [evC_range] at he
  unfold rangeC at he
  split at he
  · rename_i fn caps hfv
    split at he
    · rename_i xs pn hit
      obtain ⟨hcf, hcl⟩ := (hf.env fun _ => True).op h1 (fun _ _ => trivial) hfv
      have hcaps : ∀ p ∈ caps, p.1 < s.nx := hcl
      obtain ⟨heg, hpn, hxl, vals, hvals, hseq⟩ := hI fn caps s xs pn g w hit hs hcaps
      simp only at he
      unfold loopEnd at he
      split at he
      · rename_i ex1 T1 s1 hrounds
        injection he with he; injection he with e1 e2; injection e2 with e2 e3; subst e1; subst e2; subst e3
        -- what the rounds say, from any round on
        have hvf : a.eval f = .func (.func fn) #[] (caps.map (capV g)).toArray := hcf
        obtain ⟨W0, hW0⟩ : ∃ W0, W0 = (w.alloc (.deferred (some []))) := ⟨_, rfl⟩
        refine wpIn_rangeFunc ?_
        intro fid hfid
        obtain ⟨rec, hrec⟩ : ∃ rec : LoopState → Option Code → Loop, rec = fun st pe => { state := st, pending := pe, fn := fid, tmps := a.tmps, params := ps, assign := ca, body := cb, defers := w.heap.size } := ⟨_, rfl⟩
        obtain ⟨W1, hW1⟩ : ∃ W1, W1 = (w.alloc (.deferred (some []))).alloc (.loop (rec .ready none)) := ⟨_, rfl⟩
        have hL1 : W1.heap[w.heap.size + 1]? = some (.loop (rec .ready none)) := by
          rw [hW1]; have := World.alloc_heap_new (w.alloc (.deferred (some []))) (.loop (rec .ready none)); rw [World.size_alloc] at this; exact this
        have hD1 : W1.heap[w.heap.size]? = some (.deferred (some [])) := by
          rw [hW1]; exact (Below.heap_alloc _ _ _ (by simp)).trans (World.alloc_heap_new w _)
        have hB1 : Below w.heap.size w W1 := by
          rw [hW1]; exact ((Below.refl _ w).alloc (Nat.le_refl _) _).alloc (by simp) _
        have hz1 : W1.heap.size = w.heap.size + 2 := by rw [hW1]; simp
        -- states between the rounds
        let st0 : S := { H := s.H, nx := s.nx, lg := [] }
        let At : List (List A) → S → World → Prop := fun ys sk W =>
          evRounds (fun T s => onlyN (evC P K k xb) (evC P K k xa T s)) ps.toList T pn ys sk = some (ex1, T1, s1) ∧
          ∃ g', Step (· ∈ sk.lg) s.H.get g s.nx w sk.H.get g' sk.nx W ∧ (∀ b ∈ pn, b ∉ sk.lg) ∧ W.heap[w.heap.size + 1]? = some (.loop (rec .ready none)) ∧ W.heap[w.heap.size]? = some (.deferred (some []))
        let J : Nat → World → Prop := fun i W => ∃ sk, At (xs.drop i) sk W
        let Jx : World → Prop := fun W => ex1 ≠ .normal ∧ T1 = T ∧ ∃ g' c, exE ex1 = (match c with | .ret => Exit.ret | .exit id => .exit id | _ => .normal) ∧ (c = .ret ∨ ∃ id, c = .exit id) ∧ Step (· ∈ s1.lg) s.H.get g s.nx w s1.H.get g' s1.nx W ∧
          W.heap[w.heap.size + 1]? = some (.loop (rec .done (some c))) ∧ W.heap[w.heap.size]? = some (.deferred (some []))
        have hnc : ∀ (l : Loop) c t f, Obj.loop l ≠ .cells c t f := by intro l c t f e; cases e
        have hkeepB : ∀ (sk : S) (W : World) (g' : Gh), Step (· ∈ sk.lg) s.H.get g s.nx w sk.H.get g' sk.nx W → (∀ b ∈ pn, b ∉ sk.lg) → ∀ c, (∃ b ∈ pn, g.m b = c) → W.heap[c]? = w.heap[c]? := by
          rintro sk W g' hst hno c ⟨b, hbp, rfl⟩
          have hlive := hpn b hbp
          cases hl : s.H.get b with
          | none => exact absurd hl hlive
          | some l =>
            obtain ⟨_, _, _, cs, t, e, _⟩ := hs.blk b l hl
            refine hst.frame _ (Array.getElem?_eq_some_iff.1 e).1 fun b' hb' hk' e' => ?_
            have := hs.inj b' b hk' hlive e'
            exact hno b hbp (this ▸ hb')
        refine ⟨w.heap.size + 1, [{ target := .collected w.heap.size, args := #[] }], W1, { target := .fn (.func fn) (caps.map (capV g)).toArray, args := #[.func (.yield (w.heap.size + 1)) #[] #[]] }, W1, fn,
          #[.func (.yield (w.heap.size + 1)) #[] #[]] ++ (caps.map (capV g)).toArray, W1, ?_, ?_, fun _ _ => trivial, ?_, fun e => (by cases e), ?_⟩
        · rw [hW1, hrec]; exact run_enterLoop_outer _ _ _ _ _
        · simp only [resolve, hvf]
          simp [go_sem]
        · simp [invoke, go_sem, heg]
        · have hloopnc : ∀ (st : LoopState) (pe : Option Code) (c : Array Value) (t : TypeId) (f : Nat × Nat), Obj.loop (rec st pe) ≠ .cells c t f := by intro st pe c t f e; cases e
          have hcall := hseq 1 (w.heap.size + 1) J Jx W1 (fun c hc => ?_) hB1.size ?_ ?_ ?_ ?_
          · refine callsFd.2 ((callsFd.1 hcall).mono ?_)
            have hfin : ∀ (e2 : Ex) (W' : World) (g' : Gh) (st : LoopState) (pe : Option Code), e2 = ex1 → T1 = T → Step (· ∈ s1.lg) s.H.get g s.nx w s1.H.get g' s1.nx W' → W'.heap[w.heap.size + 1]? = some (.loop (rec st pe)) → W'.heap[w.heap.size]? = some (.deferred (some [])) → ∀ o', Q (exE ex1) { a with defers := [{ target := .collected w.heap.size, args := #[] }] ++ a.defers } (W'.putObj (w.heap.size + 1) o') := by
              intro e2 W' g' st pe he2 hT hst hl hdd o'
              have hsh : Shut w.heap.size W' (W'.putObj (w.heap.size + 1) o') := shut_put (by omega) hl (hloopnc st pe)
              have hst2 := hst.shut hsh
              have hdd2 : (W'.putObj (w.heap.size + 1) o').heap[w.heap.size]? = some (.deferred (some [])) := (World.putObj_heap_other (by omega)).trans hdd
              refine hQ g' _ _ ⟨hst2.weak fun b hb => List.mem_append_left _ hb, fun b hb => List.mem_append_right _ hb⟩ ?_ ⟨[{ target := .collected w.heap.size, args := #[] }], rfl, ⟨⟨w.heap.size, rfl, hb, hdd2, fun d' hd' e => ?_⟩, hd.keep fun D _ hD => hst2.obj hs hD (by intro c t f e; cases e)⟩⟩ rfl
              · intro t x ht
                rw [hT] at ht
                obtain ⟨q1, q2, q3⟩ := hf t x ht
                exact ⟨hst2.ra hs q2 q1, alt_mono hst2.mono q2, q3⟩
              · have : ∀ {ds : List Deferred}, Mk base w ds → d' ∈ ds → False := by
                  intro ds
                  induction ds with
                  | nil => intro _ h; cases h
                  | cons d0 ds ih =>
                    rintro ⟨⟨D, k1, _, k3, _⟩, k5⟩ h
                    rcases List.mem_cons.1 h with rfl | h
                    · rw [k1] at e
                      injection e with e
                      have := (Array.getElem?_eq_some_iff.1 k3).1
                      omega
                    · exact ih k5 h
                exact this hd hd'
            rintro e W' ⟨⟨v, rfl⟩, ⟨sk, hev, g', hst, hno, hl, hdd⟩ | ⟨hne, hT, g', c, hex, hcc, hst, hl, hdd⟩⟩
            · have hdrop : xs.drop vals.length = [] := by rw [← hvals.length]; simp
              rw [hdrop] at hev
              simp only [evRounds] at hev
              injection hev with hev; injection hev with q1 q2; injection q2 with q2 q3
              subst q1; subst q2; subst q3
              refine ⟨none, _, by have := run_endLoop (P := P) hl (by rw [hrec]; simp); rw [hrec] at this; exact this, ?_⟩
              exact hfin .normal W' g' .ready none rfl rfl hst hl hdd _
            · refine ⟨some c, _, by have := run_endLoop (P := P) hl (by rw [hrec]; simp); rw [hrec] at this; exact this, ?_⟩
              have h9 := hfin ex1 W' g' .done (some c) rfl hT hst hl hdd
              rw [hex] at h9
              rcases hcc with rfl | ⟨id, rfl⟩
              · exact wpIn_ret (h9 _)
              · exact wpIn_exit (h9 _)
          · obtain ⟨b, hbp, rfl⟩ := hc
            cases hl : s.H.get b with
            | none => exact absurd hl (hpn b hbp)
            | some l =>
              obtain ⟨_, _, _, cs, t, e, _⟩ := hs.blk b l hl
              exact hB1.block _ (Array.getElem?_eq_some_iff.1 e).1
          · rintro i A A' ⟨sk, hev, g', hst, hno, hl, hdd⟩ hbl
            exact ⟨sk, hev, g', hst.grow hbl, hno, (hbl.block _ (Array.getElem?_eq_some_iff.1 hl).1).trans hl, (hbl.block _ (Array.getElem?_eq_some_iff.1 hdd).1).trans hdd⟩
          · rintro A A' ⟨hne, hT, g', c, hex, hcc, hst, hl, hdd⟩ hbl
            exact ⟨hne, hT, g', c, hex, hcc, hst.grow hbl, (hbl.block _ (Array.getElem?_eq_some_iff.1 hl).1).trans hl, (hbl.block _ (Array.getElem?_eq_some_iff.1 hdd).1).trans hdd⟩
          · rintro i x W ⟨sk, hev, g', hst, hno, hl, hdd⟩ hx
            have hix : i < xs.length := by rw [hvals.length]; exact (List.getElem?_eq_some_iff.1 hx).1
            obtain ⟨x', hx', hrel⟩ := hvals.get (i := i) (a := xs[i]) (by simp [hix])
            rw [hx] at hx'; injection hx' with hx'; subst hx'
            rw [List.drop_eq_getElem_cons hix] at hev
            simp only [evRounds] at hev
            cases hlen : Nat.beq xs[i].length ps.toList.length with
            | false => rw [hlen] at hev; cases hev
            | true =>
              rw [hlen] at hev
              simp only [cond_true] at hev
              have hlen2 := Nat.eq_of_beq_eq_true hlen
              unfold roundC at hev
              split at hev
              · rename_i ex2 T2 s2 hround
                cases hpd : pn.all (fun b => !(s2.lg.contains b)) with
                | false => rw [hpd] at hev; cases hev
                | true =>
                  rw [hpd] at hev
                  simp only [cond_true] at hev
                  have hno2 : ∀ b ∈ pn, b ∉ s2.lg := fun b hb h => by
                    have := List.all_eq_true.1 hpd b hb
                    simp [h] at this
                  unfold onlyN at hround
                  split at hround
                  · rename_i Ta sa hassign
                    have h8 : xs[i].length = ps.size := by simpa using hlen2
                    have h7 := hrel.length
                    have hy := run_yield (P := P) (args := x.toArray) hl (by subst hrec; show x.toArray.size = ps.size; simp; omega)
                    rw [hrec] at hy
                    refine ⟨fid, _, ca, cb, hy, roundIn_of_wpIn hfid ?_⟩
                    have hxl' : ∀ y ∈ xs[i], y.lt s.nx := hxl xs[i] (List.getElem_mem hix)
                    -- the slots of the round
                    have hfW : Fr g' W sk.nx T a := fun t y ht => by
                      obtain ⟨q1, q2, q3⟩ := hf t y ht
                      exact ⟨hst.ra hs q2 q1, alt_mono hst.mono q2, q3⟩
                    have hrelW : ∀ {l : List A} {r : List Value}, (∀ y ∈ l, y.lt s.nx) → All2 (RA g w) l r → All2 (RA g' W) l r := fun hl h => h.mono fun y z hy hr => hst.ra hs (hl y hy) hr
                    obtain ⟨hb1, hb2⟩ := bindT_fr (ps := ps.toList) hfW (hrelW hxl' hrel) (fun y hy => alt_mono hst.mono (hxl' y hy)) (fun p hp => Nat.lt_of_lt_of_le (hps p (by simpa using hp)) hnt)
                    have htm : (ps.zip x.toArray).foldl (fun tmps (q : Nat × Value) => tmps.setIfInBounds q.1 q.2) a.tmps = (ps.toList.zip x).foldl (fun t (q : Nat × Value) => t.setIfInBounds q.1 q.2) a.tmps := by
                      rw [← Array.foldl_toList]; simp
                    have hsz : ((ps.zip x.toArray).foldl (fun tmps (q : Nat × Value) => tmps.setIfInBounds q.1 q.2) a.tmps).size = a.tmps.size := by rw [htm]; exact hb2
                    have hnt2 := hnt
                    rw [← hsz] at hnt2
                    refine hc (ro := some (w.heap.size + 1)) (base := 0) (s := { H := sk.H, nx := sk.nx, lg := [] }) (Nat.le_refl 1) h2 (.inr hna) hassign (a := { tmps := _, defers := [] }) ?_ hst.sim ?_ (Nat.zero_le _) trivial ?_
                    · intro t y ht
                      obtain ⟨q1, q2, q3⟩ := hb1 t y ht
                      exact ⟨by rw [htm]; exact q1, q2, by rw [htm]; exact q3⟩
                    · exact hnt2
                    · intro g2 a2 W2 c1 c2 c3 c4
                      have hl2 : W2.heap[w.heap.size + 1]? = some (.loop (rec .ready none)) := c1.1.obj hst.sim hl (hloopnc _ _)
                      have hdd2 : W2.heap[w.heap.size]? = some (.deferred (some [])) := c1.1.obj hst.sim hdd (by intro c t f e; cases e)
                      refine ⟨_, run_beginRound hl2 (by rw [hrec]), ?_⟩
                      have hsh2 : Shut w.heap.size W2 (W2.putObj (w.heap.size + 1) (.loop { rec .ready none with state := .busy })) := shut_put (by omega) hl2 (hloopnc _ _)
                      have hl3 : (W2.putObj (w.heap.size + 1) (.loop { rec .ready none with state := .busy })).heap[w.heap.size + 1]? = some (.loop { rec .ready none with state := .busy }) := World.putObj_heap_same (Array.getElem?_eq_some_iff.1 hl2).1
                      have hdd3 : (W2.putObj (w.heap.size + 1) (.loop { rec .ready none with state := .busy })).heap[w.heap.size]? = some (.deferred (some [])) := (World.putObj_heap_other (by omega)).trans hdd2
                      refine hc (ro := some (w.heap.size + 1)) (base := 0) (Nat.le_refl 1) h3 (.inr hnb) hround (c2.shut hsh2) (c1.1.sim.shut hsh2) ?_ (Nat.zero_le _) ?_ ?_
                      · rw [c4]; exact hnt2
                      · refine c3.choose_spec.2.keep fun D _ hD => ?_
                        refine (World.putObj_heap_other fun e => ?_).trans hD
                        subst e; rw [hl2] at hD; cases hD
                      · intro g3 a3 W3 k1 k2 _ k4
                        have hl4 : W3.heap[w.heap.size + 1]? = some (.loop { rec .ready none with state := .busy }) := k1.1.obj (c1.1.sim.shut hsh2) hl3 (by intro c t f e; cases e)
                        have hdd4 : W3.heap[w.heap.size]? = some (.deferred (some [])) := k1.1.obj (c1.1.sim.shut hsh2) hdd3 (by intro c t f e; cases e)
                        -- all of it since the loop began
                        have hZ : ∀ o', Step (· ∈ s2.lg ++ sk.lg) s.H.get g s.nx w s2.H.get g3 s2.nx (W3.putObj (w.heap.size + 1) o') := by
                          intro o'
                          have z1 := (hst.weak (W' := (· ∈ s2.lg ++ sk.lg)) fun b hb => List.mem_append_right _ hb).trans hs (c1.1.weak (W' := (· ∈ s2.lg ++ sk.lg)) fun b hb => List.mem_append_left _ (k1.2 b hb)) fun _ h => h
                          have z2 := (z1.shut hsh2).trans hs (k1.1.weak (W' := (· ∈ s2.lg ++ sk.lg)) fun b hb => List.mem_append_left _ hb) fun _ h => h
                          exact z2.shut (shut_put (by omega) hl4 (by intro c t f e; cases e))
                        have hput : ∀ o', (W3.putObj (w.heap.size + 1) o').heap[w.heap.size]? = some (.deferred (some [])) := fun o' => (World.putObj_heap_other (by omega)).trans hdd4
                        have hput2 : ∀ o', (W3.putObj (w.heap.size + 1) o').heap[w.heap.size + 1]? = some o' := fun o' => World.putObj_heap_same (Array.getElem?_eq_some_iff.1 hl4).1
                        have hnoF : ∀ b ∈ pn, b ∉ s2.lg ++ sk.lg := fun b hb h => (List.mem_append.1 h).elim (hno2 b hb) (hno b hb)
                        cases ex2 with
                        | normal =>
                          have her := run_endRound (P := P) (none : Option Code) hl4
                          rw [hrec] at her
                          simp only [roundEx] at hev
                          refine ⟨_, _, her, .inl ⟨rfl, ⟨_, hev, g3, gc_step (s1 := { H := s2.H, nx := s2.nx, lg := s2.lg ++ sk.lg }) (hZ _) hs, hnoF, by rw [hrec]; exact hput2 _, hput _⟩, fun c hc => ?_, ?_⟩⟩
                          · exact (hkeepB { H := s2.H, nx := s2.nx, lg := s2.lg ++ sk.lg } _ g3 (hZ _) hnoF c hc).trans (hkeepB sk W g' hst hno c hc).symm
                          · have q1 := c1.1.size
                            have q2 := k1.1.size
                            simp [World.putObj] at q2 ⊢
                            omega
                        | ret =>
                          have her := run_endRound (P := P) (some Code.ret) hl4
                          rw [hrec] at her
                          simp only [roundEx] at hev
                          injection hev with hev; injection hev with q1 q2; injection q2 with q2 q3
                          subst q1; subst q2; subst q3
                          exact ⟨_, _, her, .inr ⟨rfl, by simp, rfl, g3, .ret, rfl, .inl rfl, hZ _, by rw [hrec]; exact hput2 _, hput _⟩⟩
                        | exit id =>
                          have her := run_endRound (P := P) (some (Code.exit id)) hl4
                          rw [hrec] at her
                          simp only [roundEx] at hev
                          injection hev with hev; injection hev with q1 q2; injection q2 with q2 q3
                          subst q1; subst q2; subst q3
                          exact ⟨_, _, her, .inr ⟨rfl, by simp, rfl, g3, .exit id, rfl, .inr ⟨id, rfl⟩, hZ _, by rw [hrec]; exact hput2 _, hput _⟩⟩
                  · cases hround
              · cases hev
          · exact ⟨st0, by simpa using hrounds, g, (hs.rfl_step (· ∈ st0.lg)).grow hB1, fun _ _ h => (List.not_mem_nil h).elim, hL1, hD1⟩
      · cases he
    · cases he
  · cases he
end
end Go.Ev
end
/- ev: the loop function over pairs (apart.pairs). -/
section
namespace Go.Ev
/-- Blocks that are kept. -/
def KpG (B : Nat → Prop) (W W' : World) : Prop := (∀ c, B c → W'.heap[c]? = W.heap[c]?) ∧ W.heap.size ≤ W'.heap.size
theorem KpG.refl (B : Nat → Prop) (W : World) : KpG B W W := ⟨fun _ _ => rfl, Nat.le_refl _⟩
theorem KpG.trans {B : Nat → Prop} {A A' A'' : World} (h : KpG B A A') (k : KpG B A' A'') : KpG B A A'' := ⟨fun c hc => (k.1 c hc).trans (h.1 c hc), Nat.le_trans h.2 k.2⟩
theorem KpG.cell {B : Nat → Prop} {W W' : World} (h : KpG B W W') {p : Addr} (hp : B p.block) : W'.cell? p = W.cell? p := World.cell?_of_block (h.1 _ hp)
def vInt : Value → Int | .int _ q => q | _ => 0
/-- What a yield comes back with. -/
def Gives (P : Program) (n l : Nat) (args : Array Value) (W : World) (A B : World → Prop) : Prop :=
  YieldAt Fence.wide n P l args W fun e W' => ∃ bb, e = .returned (.bool bb) ∧ ((bb = true ∧ A W') ∨ (bb = false ∧ B W'))
theorem gives {P : Program} {n l : Nat} {args : Array Value} {W : World} {A B : World → Prop} (h : YieldAt Fence.wide n P l args W fun e W' => (e = .returned (.bool true) ∧ A W') ∨ (e = .returned (.bool false) ∧ B W')) : Gives P n l args W A B :=
  h.mono fun e W' h => by
    rcases h with ⟨rfl, h⟩ | ⟨rfl, h⟩
    · exact ⟨true, rfl, .inl ⟨rfl, h⟩⟩
    · exact ⟨false, rfl, .inr ⟨rfl, h⟩⟩
theorem uponIn_yield {P : Program} {n l : Nat} {o : Oper} {a : Act} {w : World} {A B : World → Prop} {K : Act → World → Prop} {Q : Exit → Act → World → Prop} {vals : Array Value} (hy : Gives P n l vals w A B)
    (hK : ∀ bb w', (bb = true ∧ A w') ∨ (bb = false ∧ B w') → K (a.put o.dst (.bool bb)) w') : o.uponIn Fence.wide (n + 1) P a K Q (Sem.run P (Instr.yield l vals) w) := by
  obtain ⟨fn, tmps, assign, body, h1, h2⟩ := hy
  have h1' : Sem.run P (Instr.yield l vals) w = .ok (.round l fn tmps assign body) w := h1
  rw [h1']
  refine ⟨fun e => (by cases e), ?_⟩
  simp only [Nat.add_sub_cancel]
  refine h2.mono ?_
  rintro e w' ⟨bb, rfl, h⟩
  exact hK bb w' h
end Go.Ev
namespace Go.Proofs.YtkccmpikeekceaaGreat
open Go.RowKit Go.Own Go.Ev Go.BigFrame Go.Shelf
attribute [local go_sem] Oper.semAt_some
set_option maxRecDepth 100000 in
set_option maxHeartbeats 2000000 in
theorem pairs1_in (n : Nat) (l : Nat) (b1 o1 b2 o2 c1 f1 p1 c2 f2 p2 : Nat) (xs ys : List Value) (hx : xs.length < 1000000) (hy : ys.length < 1000000) (B : Nat → Prop) (hB : B b1 ∧ B b2 ∧ B c1 ∧ B c2)
    (J : Nat → World → Prop) (Jx : World → Prop) (W : World)
    (hY : ∀ k x W1, J k W1 → (xs.flatMap fun x => ys.map fun y => [x, y])[k]? = some x → YieldAt Fence.wide n Tryz.prog l x.toArray W1 fun e W' => (e = .returned (.bool true) ∧ J (k + 1) W' ∧ (∀ c, B c → W'.heap[c]? = W1.heap[c]?) ∧ W1.heap.size ≤ W'.heap.size) ∨ (e = .returned (.bool false) ∧ Jx W'))
    (h1 : W.cell? ⟨b1, o1, none⟩ = some (.slice (some ⟨c1, f1, none⟩) xs.length p1)) (h2 : W.cell? ⟨b2, o2, none⟩ = some (.slice (some ⟨c2, f2, none⟩) ys.length p2))
    (hc1 : ∀ i x, xs[i]? = some x → W.cell? ⟨c1, f1 + i, none⟩ = some x) (hc2 : ∀ i x, ys[i]? = some x → W.cell? ⟨c2, f2 + i, none⟩ = some x)
    (h0 : J 0 W) :
    CallsIn Fence.wide (n + 1) Tryz.prog 207 #[.func (.yield l) #[] #[], .pointer (some ⟨b1, o1, none⟩), .pointer (some ⟨b2, o2, none⟩)] W fun e W' => (∃ v, e = .returned v) ∧ (J (xs.flatMap fun x => ys.map fun y => [x, y]).length W' ∨ Jx W') := by
  have hlen : (xs.flatMap fun x => ys.map fun y => [x, y]).length = xs.length * ys.length := by simp [List.length_flatMap, List.map_const']
  have hat : ∀ i j x y, xs[i]? = some x → ys[j]? = some y → (xs.flatMap fun x => ys.map fun y => [x, y])[i * ys.length + j]? = some [x, y] := by
    clear hY hlen h1 hc1 hx
    induction xs with
    | nil => intro i j x y h; simp at h
    | cons x0 xs ih =>
      intro i j x y h h'
      have hj := (List.getElem?_eq_some_iff.1 h').1
      rw [List.flatMap_cons]
      cases i with
      | zero =>
        simp at h; subst h
        rw [List.getElem?_append_left (by simp; omega)]
        simp [h']
      | succ i =>
        rw [List.getElem?_append_right (by simp [Nat.succ_mul]; omega)]
        simp only [List.length_map]
        rw [show (i + 1) * ys.length + j - ys.length = i * ys.length + j by rw [Nat.succ_mul]; omega]
        exact ih i j x y (by simpa using h) h'
  generalize hL : (xs.flatMap fun x => ys.map fun y => [x, y]) = L at hY hlen hat ⊢
  refine callsIn_of_wp Tryz.func207 rfl trivial ?_ rfl
  simp only [Tryz.ntmps207, List.size_toArray, List.length_cons, List.length_nil, Nat.reduceAdd, Nat.reduceSub, Array.replicate_succ, Array.replicate_zero, List.push_toArray, List.append_toArray, List.nil_append, List.cons_append]
  gi_wp2
  gi_loopw [10] (fun i wr => ∃ k : Nat, k ≤ xs.length ∧ i = .int .i64 k ∧ J (k * ys.length) wr ∧ KpG B W wr)
    (fun i _ => xs.length - (vInt i).toNat)
  case atStart => exact ⟨0, Nat.zero_le _, rfl, by rw [Nat.zero_mul]; exact h0, KpG.refl _ _⟩
  case round =>
    obtain ⟨k, hk, rfl, hJs, hK⟩ := hrel
    by_cases hlt : k < xs.length
    · have hx1 : wr.cell? ⟨c1, f1 + k, none⟩ = some xs[k] := (hK.cell hB.2.2.1).trans (hc1 k _ (by simp))
      have hx2 : wr.cell? ⟨b2, o2, none⟩ = some (.slice (some ⟨c2, f2, none⟩) ys.length p2) := (hK.cell hB.2.1).trans h2
      have hlt' : (k : Int) < (xs.length : Int) := by omega
      gi_wp2
      gi_loopw [16] (fun i wr => ∃ j : Nat, j ≤ ys.length ∧ i = .int .i64 j ∧ J (k * ys.length + j) wr ∧ KpG B W wr)
        (fun i _ => ys.length - (vInt i).toNat)
      case atStart => exact ⟨0, Nat.zero_le _, rfl, by simpa using hJs, hK⟩
      case round =>
        obtain ⟨j, hj, rfl, hJ2, hK2⟩ := hrel
        by_cases hlt2 : j < ys.length
        · have hlt2' : (j : Int) < (ys.length : Int) := by omega
          have hx3 : wr.cell? ⟨c2, f2 + j, none⟩ = some ys[j] := (hK2.cell hB.2.2.2).trans (hc2 j _ (by simp))
          obtain ⟨fn, tmps, assign, body, hyy, hR⟩ := hY _ _ wr hJ2 (hat k j xs[k] ys[j] (by simp) (by simp))
          gi_wp2
          refine hR.mono ?_
          rintro e W3 (⟨rfl, hJ3, hk3⟩ | ⟨rfl, hJx3⟩)
          · gi_wp2
            go_roundw
            case rel => exact ⟨j + 1, by omega, by simp, hJ3, hK2.trans hk3⟩
            case measure => simp [vInt]; omega
          · gi_wp2
            refine bodyPost_ret (results_none rfl _ _ _) rfl ?_
            exact ⟨⟨_, rfl⟩, .inr hJx3⟩
        · obtain rfl : j = ys.length := by omega
          gi_wp2
          go_roundw
          case rel => exact ⟨k + 1, by omega, by simp, by rw [Nat.succ_mul]; exact hJ2, hK2⟩
          case measure => simp [vInt]; omega
    · obtain rfl : k = xs.length := by omega
      gi_wp2
      go_end0
      exact ⟨⟨_, rfl⟩, .inl (by rw [hlen]; exact hJs)⟩
end Go.Proofs.YtkccmpikeekceaaGreat
end
