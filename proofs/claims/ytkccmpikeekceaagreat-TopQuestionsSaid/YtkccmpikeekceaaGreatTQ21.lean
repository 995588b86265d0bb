/- ev: tables of calls on memory that they only read. No program. -/
import Derived.Test.YtkccmpikeekceaaGreatTQ20
/- ev: tables of calls on memory that they only read. No program. -/
section
namespace Go.Ev
open Go.RowKit Go.Own
noncomputable section
def memL (M : List (Nat × List C)) : Tr (List C) := List.rec (motive := fun _ => Tr (List C)) .e (fun p _ t => t.set depth p.1 (some p.2)) M
def hasB (p : Nat × List C) (x : Option (List C)) : Bool := match x with | some l => eqLB eqC l p.2 | none => false
def hasM (H : Tr (List C)) (M : List (Nat × List C)) : Bool := M.all fun p => hasB p (H.get p.1)
def findM (f : Nat) (args : List A) (l : List Ent) : Option A := List.rec (motive := fun _ => Option A) none (fun e _ ih => Bool.rec ih (Bool.rec ih (some e.res) (eqLT eqA args e.args)) (Nat.beq e.f f)) l
def specM (M : List (Nat × List C)) (n0 : Nat) (l : List Ent) (f : FuncId) (args : List A) (s : S) : Rs := match findM f args l with
  | some r => bif Nat.ble n0 s.nx && hasM s.H M then some (r, s) else none
  | none => none
def chkR (v : A) (s : S) (r : A) : Bool := bif v.free && s.lg.isEmpty then eqA v r else false
/-- An entry, run again on this memory alone. -/
def chkM (P : Program) (K : Known) (k : Nat) (M : List (Nat × List C)) (n0 : Nat) (e : Ent) : Bool := match evCall K (evC P K k) e.f e.args { H := memL M, nx := n0, lg := [] } with
  | some (v, s) => chkR v s e.res
  | none => false
def okB (n0 : Nat) (l : List Nat) : Bool := l.all fun b => Nat.blt b n0
def okM (n0 : Nat) (M : List (Nat × List C)) : Bool := M.all fun p => Nat.blt p.1 n0 && p.2.all fun x => okB n0 x.name
def okE (n0 : Nat) (e : Ent) : Bool := e.args.all fun a => okB n0 a.names
end
theorem findM_some {f : Nat} {args : List A} {r : A} : ∀ {l : List Ent}, findM f args l = some r → ∃ e ∈ l, e.f = f ∧ args = e.args ∧ e.res = r
  | [], h => by cases h
  | e :: l, h => by
    have h : (Bool.rec (findM f args l) (Bool.rec (findM f args l) (some e.res) (eqLT eqA args e.args)) (Nat.beq e.f f) : Option A) = some r := h
    have go : findM f args l = some r → ∃ e' ∈ e :: l, e'.f = f ∧ args = e'.args ∧ e'.res = r := fun h => by
      obtain ⟨e', h1, h2⟩ := findM_some h
      exact ⟨e', List.mem_cons_of_mem _ h1, h2⟩
    cases hf : Nat.beq e.f f with
    | false => rw [hf] at h; exact go h
    | true =>
      rw [hf] at h
      cases ha : eqLT eqA args e.args with
      | false => rw [ha] at h; exact go h
      | true =>
        rw [ha] at h
        injection h with h
        exact ⟨e, List.mem_cons_self .., Nat.eq_of_beq_eq_true hf, all2_eq (eqLT_eq (fun _ _ => eqA_eq) ha), h⟩
theorem memL_mem : ∀ {M : List (Nat × List C)} {b : Nat} {l : List C}, (memL M).get b = some l → (b, l) ∈ M
  | [], b, l, h => by cases h
  | p :: M, b, l, h => by
    have h : (Tr.set depth (memL M) p.1 (some p.2)).get b = some l := h
    rcases Tr.get_set _ _ _ _ _ _ h with ⟨h1, h2⟩ | ⟨_, h2⟩
    · injection h2 with h2
      subst h1 h2
      exact List.mem_cons_self ..
    · exact List.mem_cons_of_mem _ (memL_mem h2)
theorem hasM_get {H : Tr (List C)} {M : List (Nat × List C)} (h : hasM H M = true) {b : Nat} {l : List C} (hm : (memL M).get b = some l) : H.get b = some l := by
  have h1 := List.all_eq_true.1 h _ (memL_mem hm)
  unfold hasB at h1
  split at h1
  · rename_i l' h2
    have h3 : l' = l := eqLB_eq (fun _ _ => eqC_eq) h1
    rw [← h3]; exact h2
  · cases h1
theorem okB_lt {n0 : Nat} {l : List Nat} (h : okB n0 l = true) : ∀ b ∈ l, b < n0 := fun b hb => by
  have h1 := List.all_eq_true.1 h b hb
  simpa [Nat.blt_eq] using h1
variable {P : Program}
theorem sim_sub {K K' : Mem} {g : Gh} {n n' : Nat} {w : World} (h : Sim K g n w) (hk : ∀ b l, K' b = some l → K b = some l ∧ b < n' ∧ ∀ x ∈ l, x.lt n') : Sim K' g n' w where
  blk := fun b l hb => by
    obtain ⟨h1, h2, h3⟩ := hk b l hb
    obtain ⟨_, _, h6⟩ := h.blk b l h1
    exact ⟨h2, h3, h6⟩
  inj := fun b b' hb hb' => by
    have go : ∀ b, K' b ≠ none → K b ≠ none := fun b hb e => by
      cases hc : K' b with
      | none => exact hb hc
      | some l => rw [(hk b l hc).1] at e; cases e
    exact h.inj b b' (go b hb) (go b' hb')
  dsz := h.dsz
/-- THE LAW of such tables. -/
theorem specM_ok {K : Known} (hm : P.follows .mixedOrders = true) (hK : KnownOK P K) (hR : RangeOK P K) {k : Nat} {M : List (Nat × List C)} {n0 : Nat} {l : List Ent} (hM : okM n0 M = true) (hl : ∀ e ∈ l, chkM P K k M n0 e = true ∧ okE n0 e = true) :
    CallOK P (specM M n0 l) := by
  intro f args s r s' he
  unfold specM at he
  split at he
  · rename_i r' hf
    obtain ⟨e, h1, h2, h3, h4⟩ := findM_some hf
    obtain ⟨h5, h6⟩ := hl e h1
    subst h2 h3 h4
    simp only [cond_eq_ite] at he
    split at he
    · rename_i hc
      injection he with he; injection he with he1 he2
      subst he1 he2
      obtain ⟨h7, h8⟩ := Bool.and_eq_true _ _ ▸ hc
      have h7 : n0 ≤ s.nx := Nat.le_of_ble_eq_true h7
      unfold chkM at h5
      split at h5
      · rename_i v s1 h9
        unfold chkR at h5
        simp only [cond_eq_ite] at h5
        split at h5
        · rename_i hv
          obtain ⟨hv1, hv2⟩ := Bool.and_eq_true _ _ ▸ hv
          obtain rfl := eqA_eq h5
          obtain ⟨c1, c2⟩ := ev_sound hm hK hR k e.f e.args _ _ _ h9
          have hlg : s1.lg = [] := List.isEmpty_iff.1 hv2
          have hsub : ∀ b l, (memL M).get b = some l → s.H.get b = some l ∧ b < n0 ∧ ∀ x ∈ l, x.lt n0 := fun b l hb => by
            have q1 := List.all_eq_true.1 hM _ (memL_mem hb)
            obtain ⟨q2, q3⟩ := Bool.and_eq_true _ _ ▸ q1
            refine ⟨hasM_get h8 hb, by simpa [Nat.blt_eq] using q2, fun x hx => ?_⟩
            exact name_lt.2 (okB_lt (List.all_eq_true.1 q3 x hx))
          refine ⟨c1, fun g w vals hs ha _ => ?_⟩
          have hs0 : Sim (memL M).get g n0 w := sim_sub hs hsub
          refine (c2 g w vals hs0 ha fun a ha => aname_lt.2 (okB_lt (List.all_eq_true.1 h6 a ha))).mono ?_
          rintro o w' ⟨u, rfl, g', h10, h11, h12⟩
          have hst := h10.1
          rw [hlg] at hst
          have hfr : ∀ c, c < w.heap.size → w'.heap[c]? = w.heap[c]? := fun c hc => hst.frame c hc fun b hb _ => by cases hb
          have hn := afree_names hv1
          refine ⟨u, rfl, g.gone g' w w', ⟨hs.gone_step (fun c hc => ?_) hfr hst.size hst.os hst.tape hst.output, fun _ h => h⟩, ?_, aname_lt.2 (by rw [hn]; intro b hb; cases hb)⟩
          · rcases hst.dnew c hc with h | h
            · exact .inl h
            · exact .inr ⟨h, hst.sim.dsz c hc⟩
          · refine ra_move (g1 := g') (w := w') (p := fun _ => False) (fun _ h => h.elim) (fun c hc => ?_) (fun _ _ _ => rfl) (Nat.le_refl _) (fun _ => Nat.le_refl _) (by rw [hn]; intro b hb; cases hb) h11
            exact .inr (.inl hc)
        · cases h5
      · cases h5
    · cases he
  · cases he
theorem spec_ok {K : Known} (hK : KnownOK P K) {sp : FuncId → List A → S → Rs} (h : CallOK P sp) : KnownOK P { K with spec := sp } where
  code := hK.code
  prim := hK.prim
  spec := h
end Go.Ev
end
