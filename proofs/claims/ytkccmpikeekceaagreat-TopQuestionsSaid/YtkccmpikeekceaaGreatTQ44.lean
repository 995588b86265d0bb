/- ev: a call at a state, run once. No program. -/
import Derived.Test.YtkccmpikeekceaaGreatTQ21
/- ev: a call at a state, run once. No program. -/
section
namespace Go.Ev
open Go.RowKit Go.Own
noncomputable section
structure EntS where
  f : Nat
  args : List A
  s : S
  r : A
  s' : S
def sameS (e : EntS) (f : FuncId) (args : List A) (s : S) : Bool := Nat.beq f e.f && (eqLT eqA args e.args && eqS s e.s)
def specS (e : EntS) (nxt : FuncId → List A → S → Rs) (f : FuncId) (args : List A) (s : S) : Rs := bif sameS e f args s then some (e.r, e.s') else nxt f args s
def chkS (P : Program) (K : Known) (k : Nat) (e : EntS) : Bool := match evCall K (evC P K k) e.f e.args e.s with
  | some (v, s) => eqA v e.r && eqS s e.s'
  | none => false
end
variable {P : Program}
theorem specS_ok {K : Known} (hm : P.follows .mixedOrders = true) (hK : KnownOK P K) (hR : RangeOK P K) {k : Nat} {e : EntS} {nxt : FuncId → List A → S → Rs} (h : chkS P K k e = true) (hn : CallOK P nxt) : CallOK P (specS e nxt) := by
  intro f args s r s' he
  unfold specS at he
  simp only [cond_eq_ite] at he
  split at he
  · rename_i hc
    injection he with he; injection he with he1 he2
    subst he1 he2
    obtain ⟨h1, h2⟩ := Bool.and_eq_true _ _ ▸ hc
    obtain ⟨h3, h4⟩ := Bool.and_eq_true _ _ ▸ h2
    obtain rfl := Nat.eq_of_beq_eq_true h1
    obtain rfl := all2_eq (eqLT_eq (fun _ _ => eqA_eq) h3)
    obtain rfl := eqS_eq h4
    unfold chkS at h
    split at h
    · rename_i v s1 h5
      obtain ⟨h6, h7⟩ := Bool.and_eq_true _ _ ▸ h
      have := ev_sound hm hK hR k _ _ _ _ _ h5
      rw [eqA_eq h6, eqS_eq h7] at this
      exact this
    · cases h
  · exact hn f args s r s' he
end Go.Ev
end
