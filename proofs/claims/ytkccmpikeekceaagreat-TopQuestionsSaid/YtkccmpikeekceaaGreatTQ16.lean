/- ev: operations that look at no memory, III. No program. -/
import Derived.Test.YtkccmpikeekceaaGreatTQ15
import Derived.Great.BuildSlice
/- ev: operations that look at no memory, III. No program. -/
section
namespace Go.Ev
open Go.RowKit Go.Own
variable {P : Program} {sl : Nat → Prop} {g : Gh} {w : World} {nx : Nat} {T : Tr A} {ρ : Operand → Value} {o : Oper} {s s' : S} {r : A}
theorem All2.take {α β : Type} {R : α → β → Prop} : ∀ (n : Nat) {l : List α} {r : List β}, All2 R l r → All2 R (l.take n) (r.take n)
  | 0, _, _, _ => by simp [All2]
  | n + 1, [], [], _ => by simp [All2]
  | n + 1, a :: l, b :: r, h => by simp only [List.take_succ_cons]; exact ⟨h.1, All2.take n h.2⟩
  | n + 1, [], _ :: _, h => h.elim
  | n + 1, _ :: _, [], h => h.elim
theorem All2.drop {α β : Type} {R : α → β → Prop} : ∀ (n : Nat) {l : List α} {r : List β}, All2 R l r → All2 R (l.drop n) (r.drop n)
  | 0, _, _, h => by simpa using h
  | n + 1, [], [], _ => by simp [All2]
  | n + 1, a :: l, b :: r, h => by simp only [List.drop_succ_cons]; exact All2.drop n h.2
  | n + 1, [], _ :: _, h => h.elim
  | n + 1, _ :: _, [], h => h.elim
theorem s_ix {t elem : TypeId} {x j : Operand} {x' j' : O} {n len : Nat} {ag : Bool} (ho : o.op = .index t x j) (hu : P.underlying t = some (.array len elem)) (hn : sizeOf P elem = some n) (hag : isAgg P elem = some ag)
    (hx : rdyO x = some x') (hj : rdyO j = some j') (he : kIx s len n ag (opA T x') (opA T j') = some (r, s')) (hE : Env sl g w s.nx T ρ) (hy : ∀ t, t ∈ x'.slot ++ j'.slot → sl t)
    (hs : Sim s.H.get g s.nx w) : Own.Yields P o ρ w (Good s g w r s') := by
  unfold kIx at he
  split at he
  · rename_i i h0
    obtain ⟨k, hk⟩ := nat_rel (v := ρ j) h0 (fun a ha => (hE.op hj (fun t ht => hy t (by simp [ht])) ha).1)
    split at he
    · rename_i l h1
      split at he
      · rename_i hc
        obtain ⟨h2, rfl⟩ := mv_same he
        obtain ⟨⟨cs, h3, h4⟩, h5⟩ := hE.op hx (fun t ht => hy t (by simp [ht])) h1
        have hi : ¬ ((len : Int) ≤ (i : Int)) := by omega
        cases ag with
        | true =>
          simp only [part] at h2
          split at h2
          · rename_i q h6
            injection h2 with h2; subst h2
            unfold takeAt at h6
            split at h6
            · rename_i hf
              injection h6 with h6; subst h6
              have hl := h4.length
              refine yields_value (v := .agg ((cs.drop (i * n)).take n).toArray) (w' := w) ?_ (Good.same hs ⟨_, rfl, (h4.drop _).take _⟩ (fun y hy => h5 y (List.mem_of_mem_drop (List.mem_of_mem_take hy))))
              have hx2 : cs.toArray.extract (i * n) (i * n + n) = ((cs.drop (i * n)).take n).toArray := by simp [List.extract_eq_take_drop]
              simp [execOp, ho, Instr.index, asIntOf, Sem.run_bind, run_underlying hu, hk, h3, run_size hn, Go.part, run_agg hag]
              intro h9; omega
            · cases h6
          · cases h2
        | false =>
          simp only [part] at h2
          split at h2
          · rename_i q h6
            injection h2 with h2; subst h2
            obtain ⟨u, h7, h8⟩ := h4.get h6
            refine yields_value (v := u) (w' := w) ?_ (Good.same hs h8 (h5 q (List.mem_of_getElem? h6)))
            simp [execOp, ho, Instr.index, asIntOf, Sem.run_bind, run_underlying hu, hk, h3, run_size hn, Go.part, run_agg hag, h7]
            intro h9; omega
          · cases h2
      · cases he
    · cases he
  · cases he
theorem s_s2a {t elem : TypeId} {x : Operand} {y : O} {n : Nat} (ho : o.op = .sliceToArrayPointer t x) (hu : P.underlying t = some (.array n elem)) (hx : rdyO x = some y)
    (he : kS2a s n (opA T y) = some (r, s')) (hE : Env sl g w s.nx T ρ) (hy : ∀ t ∈ y.slot, sl t) (hs : Sim s.H.get g s.nx w) : Own.Yields P o ρ w (Good s g w r s') := by
  unfold kS2a at he
  split at he
  · rename_i b off len c u h1
    split at he
    · rename_i hc
      injection he with he; injection he with h5 h6; subst h5; subst h6
      obtain ⟨⟨cap', _, _, _, h3⟩, h4⟩ := hE.op hx hy h1
      refine yields_value (v := .pointer (some ⟨g.m b, off, none⟩)) (w' := w) ?_ (Good.same hs rfl h4)
      simp [execOp, ho, Instr.arrayAt, Sem.run_bind, run_underlying hu, h3]
      intro h9; omega
    · cases he
  · cases he
theorem caps_rel (hE : Env sl g w nx T ρ) : ∀ {xs : List Operand} {ys : List O} {l : List (Nat × Nat)}, rdyL xs = some ys → opC T ys = some l → (∀ t, t ∈ ys.flatMap O.slot → sl t) → xs.map ρ = l.map (capV g) ∧ ∀ p ∈ l, p.1 < nx
  | [], ys, l, h1, h2, _ => by
    injection h1 with h1; subst h1
    injection h2 with h2; subst h2
    exact ⟨rfl, fun p hp => by cases hp⟩
  | x :: xs, ys, l, h1, h2, h3 => by
    unfold rdyL at h1
    split at h1
    · rename_i y r h4 h5
      injection h1 with h1; subst h1
      unfold opC at h2
      split at h2
      · rename_i b k h6
        split at h2
        · rename_i r' h7
          injection h2 with h2; subst h2
          obtain ⟨h8, h9⟩ := caps_rel hE h5 h7 (fun t ht => h3 t (by simp at ht ⊢; exact .inr ht))
          obtain ⟨h10, h11⟩ := hE.op h4 (fun t ht => h3 t (by simp [ht])) h6
          refine ⟨by simp [h8, capV, show ρ x = _ from h10], fun p hp => ?_⟩
          rcases List.mem_cons.1 hp with rfl | hp
          · exact h11
          · exact h9 p hp
        · cases h2
      · cases h2
    · cases h1
theorem s_mf {f : FuncId} {first caps : Array Operand} {ys : List O} (ho : o.op = .makeFunc (.func f) first caps) (hf : first.toList = []) (hc : rdyL caps.toList = some ys) (he : kMf s f (opC T ys) = some (r, s'))
    (hE : Env sl g w s.nx T ρ) (hy : ∀ t, t ∈ ys.flatMap O.slot → sl t) (hs : Sim s.H.get g s.nx w) : Own.Yields P o ρ w (Good s g w r s') := by
  unfold kMf at he
  split at he
  · rename_i l h1
    injection he with he; injection he with h5 h6; subst h5; subst h6
    obtain ⟨h2, h3⟩ := caps_rel hE hc h1 hy
    have e1 : first = #[] := by rw [← Array.toList_inj]; simpa using hf
    have e2 : caps.map ρ = (l.map (capV g)).toArray := by rw [← Array.toList_inj]; simpa using h2
    subst e1
    refine yields_value (v := .func (.func f) #[] (l.map (capV g)).toArray) (w' := w) ?_ (Good.same hs rfl h3)
    simp [execOp, ho, Instr.makeFunc, e2]
  · cases he
theorem pureP_run {α : Type} (m : Sem α) {a : α} (h : pureP P m = some a) : m.run P w = .ok a w := by
  induction m with
  | pure b =>
    simp only [pureP] at h
    injection h with h; subst h; rfl
  | program k ih =>
    simp only [pureP] at h
    exact ih P h
  | _ => simp [pureP] at h
theorem plain_c {x : C} {v v' : Value} (h : x.plain = some v) (hr : RC g w x v') : v' = v := by
  cases x with
  | i k n => simp only [C.plain] at h; injection h with h; subst h; exact hr
  | b x => simp only [C.plain] at h; injection h with h; subst h; exact hr
  | ns => simp only [C.plain] at h; injection h with h; subst h; exact hr
  | v x => simp only [C.plain] at h; injection h with h; subst h; exact hr.1
  | dig n =>
    cases n with
    | zero =>
      simp only [C.plain] at h; injection h with h; subst h
      obtain ⟨_, ⟨_, h⟩ | ⟨h, _⟩⟩ := hr
      · exact h
      · omega
    | succ n => simp [C.plain] at h
  | dptr n => simp [C.plain] at h
  | ptr b off => simp [C.plain] at h
  | sl b off len cap u => simp [C.plain] at h
  | fn f caps =>
    cases caps with
    | nil =>
      simp only [C.plain] at h; injection h with h; subst h
      simpa [RC] using hr
    | cons p l => simp [C.plain] at h
theorem plain_l : ∀ {l : List C} {vs vs' : List Value}, plainL l = some vs → All2 (RC g w) l vs' → vs' = vs
  | [], vs, [], h, _ => by simp only [plainL] at h; injection h
  | x :: l, vs, v :: vs', h, h2 => by
    simp only [plainL] at h
    split at h
    · rename_i u h3
      split at h
      · rename_i q h4
        injection h with h; subst h
        rw [plain_c h3 h2.1, plain_l h4 h2.2]
      · cases h
    · cases h
  | [], _, _ :: _, _, h => h.elim
  | _ :: _, _, [], _, h => h.elim
theorem plain_a {a : A} {v v' : Value} (h : a.plain = some v) (hr : RA g w a v') : v' = v := by
  cases a with
  | tup l => simp [A.plain] at h
  | v x => cases x with
    | c x => exact plain_c h hr
    | agg l =>
      simp only [A.plain, V.plain, Option.map_eq_some_iff] at h
      obtain ⟨q, h1, rfl⟩ := h
      obtain ⟨cs, rfl, h2⟩ := hr
      rw [plain_l h1 h2]
theorem eqGuard_const {op : BinOp} {t : TypeId} {x y x' y' : Operand} {a b : Value} (h : notNilI a = true) : eqGuard op t x y a b = eqGuard op t x' y' a b := by
  unfold eqGuard
  cases a <;> first | rfl | (cases b <;> rfl) | cases h
theorem guard_plain {op : BinOp} {t : TypeId} {x y : Operand} {a b : Value} (h : (match a, b with | .nilIface, .nilIface => false | .agg _, .agg _ => false | _, _ => true) = true) : (eqGuard op t x y a b).run P w = .ok () w := by
  cases op <;> first | rfl | (cases a <;> first | rfl | (cases b <;> first | rfl | simp at h))
theorem run_equal {t : TypeId} {x y : Value} {d : TypeDesc} {b : Bool} (hu : P.underlying t = some d)
    (h : (match d, x, y with
      | .slice _, .slice none _ _, .slice p _ _ => some p.isNone
      | .slice _, .slice (some _) _ _, .slice none _ _ => some false
      | .pointer _, .pointer none, .pointer p => some p.isNone
      | .pointer _, .pointer (some _), .pointer none => some false
      | .func .., .nilFunc, .nilFunc => some true
      | .func .., .nilFunc, .func .. => some false
      | .func .., .func .., .nilFunc => some false
      | _, _, _ => none) = some b) : (Op.equal t x y).run P w = .ok b w := by
  show (Op.equalIn (9999 + 1) t x y).run P w = _
  rw [Op.equalIn]
  simp only [Sem.run_bind, run_underlying hu, Result.andThen_ok]
  split at h <;> first | (injection h with h; subst h; rfl) | cases h
end Go.Ev
end
/- ev: operations that look at no memory, IV. No program. -/
section
namespace Go.Ev
open Go.RowKit Go.Own
variable {P : Program} {sl : Nat → Prop} {g : Gh} {w : World} {nx : Nat} {T : Tr A} {ρ : Operand → Value} {o : Oper} {s s' : S} {r : A}
theorem binOp_eql {t : TypeId} {x y : Value} (h : (match x with | .slice .. => true | .pointer none => true | .nilFunc => true | .func .. => true | .pointer (some _) => (match y with | .pointer _ => true | _ => false) | _ => false) = true) :
    binOp .eql t x y = (do pure (.bool (← Op.equal t x y))) ∧ binOp .neq t x y = (do pure (.bool (!(← Op.equal t x y)))) := by
  cases x <;> first | (exact ⟨rfl, rfl⟩) | (cases h; done) | skip
  all_goals (rename_i p; cases p <;> first | (exact ⟨rfl, rfl⟩) | (cases y <;> first | (exact ⟨rfl, rfl⟩) | cases h))
theorem run_binOp_eq {op : BinOp} {neg b : Bool} {t : TypeId} {x y : Value} (hop : op = if neg then .neq else .eql)
    (h : (match x with | .slice .. => true | .pointer none => true | .nilFunc => true | .func .. => true | .pointer (some _) => (match y with | .pointer _ => true | _ => false) | _ => false) = true)
    (he : (Op.equal t x y).run P w = .ok b w) : (binOp op t x y).run P w = .ok (.bool (b != neg)) w := by
  obtain ⟨h1, h2⟩ := binOp_eql (t := t) h
  cases neg
  · simp at hop; subst hop
    rw [h1]; simp [he]
  · simp at hop; subst hop
    rw [h2]; simp [he]
theorem nil_rel {op : BinOp} {t : TypeId} {y : Operand} {k : Nat} {a : A} {u : Value} {b neg : Bool} (hop : op = if neg then .neq else .eql) (hk : nilKind P t y = some k) (hb : isNil k a = some b) (hr : RA g w a u) (hc : ∀ v, ρ (.const v) = v) :
    (∀ p q, (eqGuard op t p q u (ρ y)).run P w = .ok () w) ∧ (binOp op t u (ρ y)).run P w = .ok (.bool (b != neg)) w ∧ (∀ p q, (eqGuard op t p q (ρ y) u).run P w = .ok () w) ∧ (binOp op t (ρ y) u).run P w = .ok (.bool (b != neg)) w := by
  unfold nilKind at hk
  split at hk
  · rename_i elem hu
    injection hk with hk; subst hk
    rw [hc]
    replace hb : isNilS a = some b := hb
    unfold isNilS at hb
    split at hb
    · injection hb with hb; subst hb
      rw [show u = _ from hr]
      exact ⟨fun _ _ => guard_plain rfl, run_binOp_eq hop rfl (run_equal hu rfl), fun _ _ => guard_plain rfl, run_binOp_eq hop rfl (run_equal hu rfl)⟩
    · injection hb with hb; subst hb
      obtain ⟨cap', _, _, _, h3⟩ := hr
      rw [h3]
      exact ⟨fun _ _ => guard_plain rfl, run_binOp_eq hop rfl (run_equal hu rfl), fun _ _ => guard_plain rfl, run_binOp_eq hop rfl (run_equal hu rfl)⟩
    · cases hb
  · rename_i elem hu
    injection hk with hk; subst hk
    rw [hc]
    replace hb : isNilP a = some b := hb
    unfold isNilP at hb
    split at hb
    · injection hb with hb; subst hb
      rw [hr.1]
      exact ⟨fun _ _ => guard_plain rfl, run_binOp_eq hop rfl (run_equal hu rfl), fun _ _ => guard_plain rfl, run_binOp_eq hop rfl (run_equal hu rfl)⟩
    · injection hb with hb; subst hb
      rw [show u = _ from hr]
      exact ⟨fun _ _ => guard_plain rfl, run_binOp_eq hop rfl (run_equal hu rfl), fun _ _ => guard_plain rfl, run_binOp_eq hop rfl (run_equal hu rfl)⟩
    · cases hb
  · rename_i hu
    injection hk with hk; subst hk
    rw [hc]
    replace hb : isNilF a = some b := hb
    unfold isNilF at hb
    split at hb
    · injection hb with hb; subst hb
      rw [hr.1]
      exact ⟨fun _ _ => guard_plain rfl, run_binOp_eq hop rfl (run_equal hu rfl), fun _ _ => guard_plain rfl, run_binOp_eq hop rfl (run_equal hu rfl)⟩
    · injection hb with hb; subst hb
      rw [show u = _ from hr]
      exact ⟨fun _ _ => guard_plain rfl, run_binOp_eq hop rfl (run_equal hu rfl), fun _ _ => guard_plain rfl, run_binOp_eq hop rfl (run_equal hu rfl)⟩
    · cases hb
  · cases hk
theorem s_eqn {op : BinOp} {t ty : TypeId} {x y z c : Operand} {a : O} {k : Nat} {neg : Bool} (ho : o.op = .binOp op t x y ty) (hop : op = if neg then .neq else .eql)
    (hz : (z = x ∧ c = y) ∨ (z = y ∧ c = x)) (hk : nilKind P t c = some k) (ha : rdyO z = some a) (he : kEqn s k (opA T a) neg = some (r, s')) (hE : Env sl g w s.nx T ρ) (hy : ∀ t ∈ a.slot, sl t)
    (hs : Sim s.H.get g s.nx w) : Own.Yields P o ρ w (Good s g w r s') := by
  unfold kEqn at he
  split at he
  · rename_i b h0
    injection he with he; injection he with h1 h2; subst h1; subst h2
    cases h3 : opA T a with
    | none => rw [h3] at h0; cases h0
    | some v =>
      rw [h3] at h0
      obtain ⟨h4, h5⟩ := hE.op ha hy h3
      obtain ⟨h6, h7, h8, h9⟩ := nil_rel hop hk h0 h4 hE.const
      refine yields_value (v := .bool (b != neg)) (w' := w) ?_ (Good.same hs rfl trivial)
      rcases hz with ⟨rfl, rfl⟩ | ⟨rfl, rfl⟩
      · simp [execOp, ho, Sem.run_bind, h6 z c, h7]
      · simp [execOp, ho, Sem.run_bind, h8 c z, h9]
  · cases he
theorem s_bin {op : BinOp} {t ty : TypeId} {x y : Operand} {x' y' : O} (ho : o.op = .binOp op t x y ty) (hx : rdyO x = some x') (hy : rdyO y = some y') (he : kBin P s op t (opA T x') (opA T y') = some (r, s'))
    (hE : Env sl g w s.nx T ρ) (hl : ∀ t, t ∈ x'.slot ++ y'.slot → sl t) (hs : Sim s.H.get g s.nx w) : Own.Yields P o ρ w (Good s g w r s') := by
  unfold kBin at he
  split at he
  · rename_i k a k' b h1 h2
    obtain ⟨h3, rfl⟩ := mv_same he
    obtain ⟨h4, _⟩ := hE.op hx (fun t ht => hl t (by simp [ht])) h1
    obtain ⟨h5, _⟩ := hE.op hy (fun t ht => hl t (by simp [ht])) h2
    have e1 : ρ x = .int k a := h4
    have e2 : ρ y = .int k' b := h5
    unfold intBin at h3
    split at h3
    · rename_i k2 n h6
      injection h3 with h3; subst h3
      refine yields_value (v := .int k2 n) (w' := w) ?_ (Good.same hs rfl trivial)
      have h7 := pureP_run (w := w) _ h6
      have h8 : (eqGuard op t x y (.int k a) (.int k' b)).run P w = .ok () w := guard_plain rfl
      simp [execOp, ho, Sem.run_bind, e1, e2, h8, h7]
    · rename_i c h6
      injection h3 with h3; subst h3
      refine yields_value (v := .bool c) (w' := w) ?_ (Good.same hs rfl trivial)
      have h7 := pureP_run (w := w) _ h6
      have h8 : (eqGuard op t x y (.int k a) (.int k' b)).run P w = .ok () w := guard_plain rfl
      simp [execOp, ho, Sem.run_bind, e1, e2, h8, h7]
    · cases h3
  · rename_i a b _ h1 h2
    obtain ⟨h3, rfl⟩ := mv_same he
    obtain ⟨h4, _⟩ := hE.op hx (fun t ht => hl t (by simp [ht])) h1
    obtain ⟨h5, _⟩ := hE.op hy (fun t ht => hl t (by simp [ht])) h2
    unfold plainBin at h3
    split at h3
    · rename_i a' b' h6 h7
      have e1 := plain_a h6 h4
      have e2 := plain_a h7 h5
      split at h3
      · rename_i v h8 h9
        split at h3
        · rename_i v' h10
          injection h3 with h3; subst h3
          obtain ⟨h11, h12⟩ := vofV_rel (g := g) (w := w) h10
          refine yields_value (v := v) (w' := w) ?_ (Good.same hs h11 (h12 _))
          have h13 := pureP_run (w := w) _ h9
          simp only [execOp, ho, e1, e2]
          rw [eqGuard_const (x' := .const a') (y' := .const b') h8]
          rw [Sem.run_bind]
          simp only [bind] at h13 ⊢
          rw [h13]; rfl
        · cases h3
      · cases h3
    · cases h3
  · cases he
theorem plainRho_eq {ops : List Operand} {l : List (Operand × Value)} {ρA : Operand → Option A} (h : ops.foldr (fun x r => match r, (ρA x).bind A.plain with | some l, some v => some ((x, v) :: l) | _, _ => none) (some []) = some l)
    (hr : ∀ x ∈ ops, ∀ a, ρA x = some a → RA g w a (ρ x)) : ∀ x ∈ ops, plainRho ρA x = ρ x := by
  induction ops generalizing l with
  | nil => intro x hx; cases hx
  | cons y ops ih =>
    simp only [List.foldr_cons] at h
    split at h
    · rename_i l' v h1 h2
      intro x hx
      rcases List.mem_cons.1 hx with rfl | hx
      · unfold plainRho
        rw [h2]
        cases h3 : ρA x with
        | none => rw [h3] at h2; cases h2
        | some a => rw [h3] at h2; exact (plain_a h2 (hr x (by simp) a h3)).symm
      · exact ih h1 (fun z hz => hr z (by simp [hz])) x hx
    · cases h
theorem s_gen (hns : ∀ cs b, o.op ≠ .select cs b) (he : kGen P s T o = some (r, s')) (hE : Env sl g w s.nx T ρ) (hl : ∀ t, t ∈ (I.gen o).slots → sl t) (hs : Sim s.H.get g s.nx w) : Own.Yields P o ρ w (Good s g w r s') := by
  unfold kGen at he
  obtain ⟨h3, rfl⟩ := mv_same he
  unfold pureOp at h3
  split at h3
  · rename_i l h4
    split at h3
    · rename_i v h5
      simp only [Option.map_eq_some_iff] at h3
      obtain ⟨v', h6, rfl⟩ := h3
      obtain ⟨h7, h8⟩ := vofV_rel (g := g) (w := w) h6
      have hcong : ∀ x ∈ o.op.operands.toList, plainRho (rhoA T) x = ρ x := by
        refine plainRho_eq (g := g) (w := w) h4 fun x hx a ha => ?_
        unfold rhoA at ha
        cases h9 : rdyO x with
        | none => rw [h9] at ha; cases ha
        | some y =>
          rw [h9] at ha
          refine (hE.op h9 (fun t ht => hl t ?_) ha).1
          simp only [I.slots, List.mem_flatMap]
          refine ⟨x, hx, ?_⟩
          cases x with
          | tmp k => simp only [rdyO] at h9; injection h9 with h9; subst h9; simpa [O.slot] using ht
          | const v => simp only [rdyO, Option.map_eq_some_iff] at h9; obtain ⟨z, _, rfl⟩ := h9; simp [O.slot] at ht
          | func f => simp only [rdyO] at h9; injection h9 with h9; subst h9; simp [O.slot] at ht
          | global k => simp [rdyO] at h9
      have e := execOp_congr o hns (ρ := plainRho (rhoA T)) (ρ' := ρ) (fun x hx => hcong x (by simpa using hx))
      refine yields_value (v := v) (w' := w) ?_ (Good.same hs h7 (h8 _))
      rw [← e]
      exact pureP_run _ h5
    · cases h3
  · cases h3
end Go.Ev
end
/- ev: operations that look at no memory, V: parts of slices, literals, made slices. No program. -/
section
namespace Go.Ev
open Go.RowKit Go.Own
variable {P : Program} {sl : Nat → Prop} {g : Gh} {w : World} {nx : Nat} {T : Tr A} {ρ : Operand → Value} {o : Oper} {s s' : S} {r : A}
/-- A bound of a part of a slice. -/
def BV (x : Option Value) (d n : Nat) : Prop := (x = none ∧ n = d) ∨ ∃ k, x = some (.int k (n : Int))
theorem bv_op (hE : Env sl g w nx T ρ) {x : Option Operand} {y : Option O} {d n : Nat} (hx : rdyOpt x = some y) (hn : opN T d y = some n) (hl : ∀ t, t ∈ optSlot y → sl t) : BV (x.map ρ) d n ∧ (x = none ↔ y = none) := by
  cases x with
  | none =>
    simp only [rdyOpt] at hx
    injection hx with hx; subst hx
    simp only [opN] at hn
    injection hn with hn
    exact ⟨.inl ⟨rfl, hn.symm⟩, by simp⟩
  | some x =>
    simp only [rdyOpt, Option.map_eq_some_iff] at hx
    obtain ⟨z, h1, rfl⟩ := hx
    obtain ⟨k, hk⟩ := nat_rel (v := ρ x) hn (fun a ha => (hE.op h1 (fun t ht => hl t (by simpa [optSlot] using ht)) ha).1)
    exact ⟨.inr ⟨k, by simp [hk]⟩, by simp⟩
theorem run_bound {k : IntKind} {i y : Nat} {c : BoundsCode} (h : i ≤ y) : (Instr.sliceBound (.int k (i : Int)) y c).run P w = .ok i w := by
  have h2 : (0 : Int) ≤ (i : Int) ∧ (i : Int) ≤ (y : Int) := by omega
  simp [Instr.sliceBound, asIntOf]
  intro h9; omega
theorem run_bounds {len cap l h m : Nat} {lo hi mx : Option Value} (h1 : BV lo 0 l) (h2 : BV hi len h) (h3 : BV mx cap m) (h4 : mx ≠ none → hi ≠ none) (h5 : l ≤ h) (h6 : h ≤ m) (h7 : m ≤ cap) :
    (Instr.sliceBounds true len cap lo hi mx).run P w = .ok (l, h, m) w := by
  unfold Instr.sliceBounds
  rcases h3 with ⟨rfl, rfl⟩ | ⟨k3, rfl⟩
  · rcases h2 with ⟨rfl, rfl⟩ | ⟨k2, rfl⟩
    · rcases h1 with ⟨rfl, rfl⟩ | ⟨k1, rfl⟩
      · simp
      · simp [run_bound h5]
    · rcases h1 with ⟨rfl, rfl⟩ | ⟨k1, rfl⟩
      · simp [run_bound h6]
      · simp [Sem.run_bind, run_bound h6, run_bound h5]
  · rcases h2 with ⟨rfl, rfl⟩ | ⟨k2, rfl⟩
    · exact absurd rfl (h4 (by simp))
    · rcases h1 with ⟨rfl, rfl⟩ | ⟨k1, rfl⟩
      · simp [Sem.run_bind, run_bound h7, run_bound h6]
      · simp [Sem.run_bind, run_bound h7, run_bound h6, run_bound h5]
theorem rdySlice_eq {t : TypeId} {n : Nat} (h : rdySlice P t = some n) : ∃ elem, P.underlying t = some (.slice elem) ∧ sizeOf P elem = some n := by
  unfold rdySlice at h
  split at h
  · rename_i e he; exact ⟨e, he, h⟩
  · cases h
theorem run_slice {t elem : TypeId} {a : Option Addr} {len cap l h m n : Nat} {lo hi mx : Option Value} (hu : P.underlying t = some (.slice elem)) (hn : sizeOf P elem = some n)
    (hb : (Instr.sliceBounds true len cap lo hi mx).run P w = .ok (l, h, m) w) : (Instr.sliceAt t (.slice a len cap) lo hi mx).run P w = .ok (.slice (if m = l then a else a.map (·.add (l * n))) (h - l) (m - l)) w := by
  simp [Instr.sliceAt, Instr.slice, Sem.run_bind, run_underlying hu, hb, run_size hn]
theorem s_cut {t : TypeId} {x : Operand} {lo hi mx : Option Operand} {x' : O} {lo' hi' mx' : Option O} {n : Nat} (ho : o.op = .slice t x lo hi mx) (ht : rdySlice P t = some n) (hx : rdyO x = some x') (h1 : rdyOpt lo = some lo') (h2 : rdyOpt hi = some hi') (h3 : rdyOpt mx = some mx')
    (hmh : (mx'.isSome && hi'.isNone) = false) (he : kCut s n (opA T x') (opN T 0 lo') (fun d => opN T d hi') (fun d => opN T d mx') = some (r, s')) (hE : Env sl g w s.nx T ρ)
    (hy : ∀ t, t ∈ x'.slot ++ optSlot lo' ++ optSlot hi' ++ optSlot mx' → sl t) (hs : Sim s.H.get g s.nx w) : Own.Yields P o ρ w (Good s g w r s') := by
  obtain ⟨elem, hu, hn⟩ := rdySlice_eq ht
  have hmx : mx.map ρ ≠ none → hi.map ρ ≠ none := by
    intro h4 h5
    have h5 : hi = none := by simpa using h5
    subst h5
    simp only [rdyOpt] at h2
    injection h2 with h2; subst h2
    cases mx with
    | none => exact h4 rfl
    | some z =>
      simp only [rdyOpt, Option.map_eq_some_iff] at h3
      obtain ⟨q, _, rfl⟩ := h3
      simp at hmh
  unfold kCut at he
  split at he
  · rename_i b off len cap u l h4 h5
    split at he
    · rename_i h m h6 h7
      split at he
      · rename_i hc
        obtain ⟨rfl, hm, hhm, hlh, hlm⟩ := hc
        injection he with he; injection he with h8 h9; subst h8; subst h9
        obtain ⟨⟨cap', c1, c2, c3, c4⟩, c5⟩ := hE.op hx (fun t ht => hy t (by simp [ht])) h4
        have b1 := (bv_op hE h1 h5 (fun t ht => hy t (by simp [ht]))).1
        have b2 := (bv_op hE h2 h6 (fun t ht => hy t (by simp [ht]))).1
        obtain ⟨b3, b4⟩ := bv_op hE h3 h7 (fun t ht => hy t (by simp [ht]))
        -- the model's capacity
        obtain ⟨m', hm1, hm2, hm3⟩ : ∃ m', BV (mx.map ρ) cap' m' ∧ m ≤ m' ∧ m' ≤ cap' := by
          rcases b3 with ⟨e1, e2⟩ | ⟨k, e⟩
          · exact ⟨cap', .inl ⟨e1, rfl⟩, by omega, Nat.le_refl _⟩
          · exact ⟨m, .inr ⟨k, e⟩, Nat.le_refl _, by omega⟩
        have hrun := run_slice (a := some ⟨g.m b, off, none⟩) hu hn (run_bounds (P := P) (w := w) b1 b2 hm1 hmx hlh (Nat.le_trans hhm hm2) hm3)
        have hv : (if m' = l then (some ⟨g.m b, off, none⟩ : Option Addr) else (some ⟨g.m b, off, none⟩ : Option Addr).map (·.add (l * u))) = some ⟨g.m b, off + l * u, none⟩ := by
          by_cases e : m' = l
          · have : l = 0 := by omega
            rw [if_pos e, this]; simp
          · rw [if_neg e]; simp [Addr.add_lit]
        rw [hv] at hrun
        refine yields_value (v := .slice (some ⟨g.m b, off + l * u, none⟩) (h - l) (m' - l)) (w' := w) ?_ (Good.same hs ⟨m' - l, ⟨by omega, by omega⟩, by omega, ?_, rfl⟩ c5)
        · simp [execOp, ho, c4, hrun]
        · have e1 : l * u + (m' - l) * u = m' * u := by rw [← Nat.add_mul]; congr 1; omega
          have e2 : m' * u ≤ cap' * u := Nat.mul_le_mul_right _ hm3
          omega
      · cases he
    · cases he
  · rename_i h4 h5
    split at he
    · rename_i h6 h7
      injection he with he; injection he with h8 h9; subst h8; subst h9
      obtain ⟨c4, _⟩ := hE.op hx (fun t ht => hy t (by simp [ht])) h4
      have b1 := (bv_op hE h1 h5 (fun t ht => hy t (by simp [ht]))).1
      have b2 := (bv_op hE h2 h6 (fun t ht => hy t (by simp [ht]))).1
      have b3 := (bv_op hE h3 h7 (fun t ht => hy t (by simp [ht]))).1
      have hrun := run_slice (a := none) hu hn (run_bounds (P := P) (w := w) b1 b2 b3 hmx (Nat.le_refl _) (Nat.le_refl _) (Nat.le_refl _))
      refine yields_value (v := .slice none 0 0) (w' := w) ?_ (Good.same hs rfl trivial)
      simp [execOp, ho, show ρ x = _ from c4, hrun]
    · cases he
  · rename_i h4 h5
    split at he
    · rename_i h6 h7
      injection he with he; injection he with h8 h9; subst h8; subst h9
      obtain ⟨c4', _⟩ := hE.op hx (fun t ht => hy t (by simp [ht])) h4
      have c4 : ρ x = .slice none 0 0 := by
        obtain ⟨_, ⟨_, h⟩ | ⟨h, _⟩⟩ := c4'
        · exact h
        · omega
      have b1 := (bv_op hE h1 h5 (fun t ht => hy t (by simp [ht]))).1
      have b2 := (bv_op hE h2 h6 (fun t ht => hy t (by simp [ht]))).1
      have b3 := (bv_op hE h3 h7 (fun t ht => hy t (by simp [ht]))).1
      have hrun := run_slice (a := none) hu hn (run_bounds (P := P) (w := w) b1 b2 b3 hmx (Nat.le_refl _) (Nat.le_refl _) (Nat.le_refl _))
      refine yields_value (v := .slice none 0 0) (w' := w) ?_ (Good.same hs rfl trivial)
      simp [execOp, ho, c4, hrun]
    · cases he
  · rename_i d hd0 h4 h5
    split at he
    · rename_i h6 h7
      split at he
      · rename_i hn1
        subst hn1
        injection he with he; injection he with h8 h9; subst h8; subst h9
        obtain ⟨c4, c5⟩ := hE.op hx (fun t ht => hy t (by simp [ht])) h4
        obtain ⟨hlt, ⟨h, _⟩ | ⟨hpos, c, off, cap, e1, e2, e3, e4, e5, e6⟩⟩ := c4
        · exact absurd h hd0
        · have b1 := (bv_op hE h1 h5 (fun t ht => hy t (by simp [ht]))).1
          have b2 := (bv_op hE h2 h6 (fun t ht => hy t (by simp [ht]))).1
          obtain ⟨b3, b4⟩ := bv_op hE h3 h7 (fun t ht => hy t (by simp [ht]))
          obtain ⟨m', hm1, hm2, hm3⟩ : ∃ m', BV (mx.map ρ) cap m' ∧ 1 ≤ m' ∧ m' ≤ cap := by
            rcases b3 with ⟨q1, q2⟩ | ⟨k, q⟩
            · exact ⟨cap, .inl ⟨q1, rfl⟩, e2, Nat.le_refl _⟩
            · exact ⟨1, .inr ⟨k, q⟩, Nat.le_refl _, e2⟩
          have hrun := run_slice (a := some ⟨c, off, none⟩) hu hn (run_bounds (P := P) (w := w) b1 b2 hm1 hmx (Nat.zero_le _) hm2 hm3)
          rw [if_neg (by omega)] at hrun
          refine yields_value (v := .slice (some ⟨c, off, none⟩) 1 m') (w' := w) ?_ (Good.same hs ⟨hlt, .inr ⟨hpos, c, off, m', rfl, hm2, by omega, e4, e5, e6⟩⟩ trivial)
          simp at hrun
          simp [execOp, ho, e1, hrun, Addr.add_lit]
      · cases he
    · cases he
  · cases he
end Go.Ev
end
/- ev: operations that look at no memory, VI: literals, made slices. No program. -/
section
namespace Go.Ev
open Go.RowKit Go.Own
variable {P : Program} {sl : Nat → Prop} {g : Gh} {w : World} {nx : Nat} {T : Tr A} {ρ : Operand → Value} {o : Oper} {s s' : S} {r : A}
theorem foldl_list {vs : List Value} {off : Nat} {cells : Array Value} (h : off + vs.length ≤ cells.size) :
    ((vs.zipIdx 0).foldl (fun cs (x : Value × Nat) => cs.setIfInBounds (off + x.2) x.1) cells).toList = cells.toList.take off ++ vs ++ cells.toList.drop (off + vs.length) := by
  obtain ⟨h1, h2⟩ := Go.Great.foldl_set off vs 0 cells
  refine List.ext_getElem? fun k => ?_
  rw [Array.getElem?_toList, h2 k, List.append_assoc]
  have e1 : (cells.toList.take off).length = off := by simp; omega
  simp only [Nat.add_zero]
  rcases Nat.lt_or_ge k off with hk | hk
  · rw [if_neg (by omega), List.getElem?_append_left (by omega), List.getElem?_take_of_lt hk]; simp
  · rw [List.getElem?_append_right (by omega), e1]
    rcases Nat.lt_or_ge (k - off) vs.length with hk2 | hk2
    · rw [if_pos ⟨hk, by omega, by omega⟩, List.getElem?_append_left hk2]
    · rw [if_neg (by omega), List.getElem?_append_right hk2, List.getElem?_drop, show off + vs.length + (k - off - vs.length) = k by omega]; simp
theorem All2.setAt {R : C → Value → Prop} {l xs : List C} {cs vs : List Value} {off : Nat} (h : All2 R l cs) (hx : All2 R xs vs) : All2 R (Ev.setAt l off xs) (cs.take off ++ vs ++ cs.drop (off + vs.length)) := by
  unfold Ev.setAt
  rw [List.append_assoc, hx.length]
  exact (h.take off).append (hx.append (h.drop _))
theorem fill_rel (hE : Env sl g w nx T ρ) {place : Nat → Option (Nat × Nat)} : ∀ {ps : List (Nat × Operand)} {q : List (Nat × Nat × O)} {l l' : List C} {cells : Array Value}, rdyP place l.length ps = some q → opP T l q = some l' →
    All2 (RC g w) l cells.toList → (∀ x ∈ l, x.lt nx) → (∀ t, t ∈ q.flatMap (fun p => p.2.2.slot) → sl t) →
    ∃ cells', Instr.fill place cells (ps.map fun x => (x.1, ρ x.2)) = some cells' ∧ All2 (RC g w) l' cells'.toList ∧ ∀ x ∈ l', x.lt nx
  | [], q, l, l', cells, h1, h2, h3, h4, _ => by
    simp only [rdyP] at h1
    injection h1 with h1; subst h1
    simp only [opP] at h2
    injection h2 with h2; subst h2
    exact ⟨cells, rfl, h3, h4⟩
  | (i, x) :: ps, q, l, l', cells, h1, h2, h3, h4, h5 => by
    simp only [rdyP] at h1
    split at h1
    · rename_i off n y q' e1 e2 e3
      split at h1
      · rename_i hf
        injection h1 with h1; subst h1
        simp only [opP] at h2
        split at h2
        · rename_i v e4
          split at h2
          · rename_i hn
            obtain ⟨e5, e6⟩ := hE.op e2 (fun t ht => h5 t (by simp [ht])) e4
            have e7 := cells_rel e5
            have hlen : (Ev.setAt l off v.cells).length = l.length := setAt_length (by omega)
            have e8 : (ρ x).cells.size = n := by have := e7.length; simp at this; omega
            have e9 := h3.length
            have hz : off + (ρ x).cells.toList.length ≤ cells.size := by simp at e9 ⊢; omega
            have hfold := foldl_list hz
            obtain ⟨cells', c1, c2, c3⟩ := fill_rel hE (place := place) (ps := ps) (q := q') (l := Ev.setAt l off v.cells) (l' := l') (cells := ((ρ x).cells.toList.zipIdx 0).foldl (fun cs (x : Value × Nat) => cs.setIfInBounds (off + x.2) x.1) cells)
              (by rw [hlen]; exact e3) h2 (by rw [hfold]; exact h3.setAt e7) (fun z hz => by
                rcases mem_setAt hz with hz | hz
                · exact h4 z hz
                · exact cells_lt e6 z hz) (fun t ht => h5 t (by simp at ht ⊢; exact .inr ht))
            refine ⟨cells', ?_, c2, c3⟩
            simp only [List.map_cons, Instr.fill, e1]
            rw [if_neg (by simp [e8]; simp at hz e9; omega)]
            rw [← c1]
            congr 1
            rw [← Array.foldl_toList]
            simp
          · cases h2
        · cases h2
      · cases h1
    · cases h1
theorem s_build {t : TypeId} {ps : Array (Nat × Operand)} {z : List C} {q : List (Nat × Nat × O)} (ho : o.op = .build t ps) (hz : zeroCells P t = some z) (he : kBuild s (opP T z q) = some (r, s'))
    (hp : (∃ fs pl, P.underlying t = some (.struct fs) ∧ places P fs = some pl ∧ rdyP (fun i => pl[i]?) z.length ps.toList = some q) ∨ (∃ m elem n, P.underlying t = some (.array m elem) ∧ sizeOf P elem = some n ∧ rdyP (fun i => some (i * n, n)) z.length ps.toList = some q))
    (hE : Env sl g w s.nx T ρ) (hy : ∀ t, t ∈ q.flatMap (fun p => p.2.2.slot) → sl t) (hs : Sim s.H.get g s.nx w) : Own.Yields P o ρ w (Good s g w r s') := by
  unfold kBuild at he
  split at he
  · rename_i l h0
    injection he with he; injection he with h1 h2; subst h1; subst h2
    obtain ⟨it, zv, h3, h4, h5, h6⟩ := zero_rel (g := g) (w := w) hz
    have hkey : ∃ cells, P.built t (ps.map fun x => (x.1, ρ x.2)).toList = some cells ∧ All2 (RC g w) l cells.toList ∧ ∀ x ∈ l, x.lt s.nx := by
      rcases hp with ⟨fs, pl, p1, p2, p3⟩ | ⟨m, elem, n, p1, p2, p3⟩
      · obtain ⟨cells', c1, c2, c3⟩ := fill_rel hE p3 h0 h5 (fun x hx => h6 x hx _) hy
        refine ⟨cells', ?_, c2, c3⟩
        unfold places at p2
        simp only [Program.built, h3, p1, h4, p2, Array.toList_map]
        rw [← c1]
        congr 1
        funext i; simp
      · obtain ⟨cells', c1, c2, c3⟩ := fill_rel hE p3 h0 h5 (fun x hx => h6 x hx _) hy
        refine ⟨cells', ?_, c2, c3⟩
        simp only [sizeOf, Option.map_eq_some_iff] at p2
        obtain ⟨ie, p4, rfl⟩ := p2
        simp only [Program.built, h3, p1, h4, p4, Array.toList_map]
        exact c1
    obtain ⟨cells, c1, c2, c3⟩ := hkey
    refine yields_value (v := .agg cells) (w' := w) ?_ (Good.same hs ⟨cells.toList, by simp, c2⟩ c3)
    simp only [execOp, ho]
    rw [Sem.run_bind, run_build w t _ cells c1]
    rfl
  · cases he
theorem flat_get {α : Type} (z : List α) : ∀ (n i : Nat), i < n * z.length → (List.replicate n z).flatten[i]? = z[i % z.length]?
  | 0, i, h => by simp at h
  | n + 1, i, h => by
    rw [List.replicate_succ, List.flatten_cons]
    have h2 : (n + 1) * z.length = n * z.length + z.length := Nat.succ_mul _ _
    rcases Nat.lt_or_ge i z.length with hi | hi
    · rw [List.getElem?_append_left hi, Nat.mod_eq_of_lt hi]
    · rw [List.getElem?_append_right hi, flat_get z n (i - z.length) (by omega), Nat.mod_eq_sub_mod hi]
theorem flat_len {α : Type} (z : List α) (n : Nat) : (List.replicate n z).flatten.length = n * z.length := by
  induction n with
  | zero => simp
  | succ n ih => rw [List.replicate_succ, List.flatten_cons, List.length_append, ih, Nat.succ_mul]; omega
theorem rep_rel {R : C → Value → Prop} {z : List C} {cs : Array Value} (h : All2 R z cs.toList) (n : Nat) :
    All2 R (List.replicate n z).flatten ((Array.range (n * cs.size)).map (fun i => cs[i % cs.size]!)).toList := by
  have hl := h.length
  simp at hl
  refine All2.of_get (by rw [flat_len]; simp [hl]) fun i a b ha hb => ?_
  have hi : i < n * z.length := by rw [← flat_len]; exact (List.getElem?_eq_some_iff.1 ha).1
  rw [flat_get z n i hi] at ha
  obtain ⟨v, h1, h2⟩ := h.get ha
  have hpos : 0 < z.length := by
    rcases Nat.eq_zero_or_pos z.length with h0 | h0
    · rw [h0] at hi; simp at hi
    · exact h0
  have hm : i % cs.size < cs.size := Nat.mod_lt _ (by omega)
  rw [hl] at h1 hi
  have e : b = v := by
    simp [hi] at hb
    rw [← hb]
    have h3 : cs[i % cs.size]? = some v := by simpa using h1
    simp [getElem!_def, h3]
  rw [e]; exact h2
theorem rep_lt {z : List C} {n k : Nat} (h : ∀ x ∈ z, x.lt k) : ∀ x ∈ (List.replicate n z).flatten, x.lt k := by
  intro x hx
  obtain ⟨l, h1, h2⟩ := List.mem_flatten.1 hx
  rw [(List.mem_replicate.1 h1).2] at h2
  exact h x h2
theorem info_size {t : TypeId} {i : TypeInfo} {n : Nat} (h : P.info? t = some i) (hn : sizeOf P t = some n) : i.size = n := by
  simp only [sizeOf, h, Option.map_some] at hn
  injection hn
theorem bsz_new (w : World) (cs : Array Value) (t : TypeId) : bsz (w.alloc (.cells cs t)) w.heap.size = cs.size := by
  have : (w.alloc (.cells cs t)).heap[w.heap.size]? = some (.cells cs t (0, 0)) := by show (w.heap.push _)[w.heap.size]? = _; simp
  unfold bsz; rw [this]
theorem maxLen_ge : 1000000 ≤ maxLen := by decide
theorem s_lit {t elem : TypeId} {len n : Nat} {ps : Array (Nat × Operand)} {z : List C} {q : List (Nat × Nat × O)} (ho : o.op = .buildSlice t len ps) (hu : P.underlying t = some (.slice elem)) (hn : sizeOf P elem = some n) (hz : zeroCells P elem = some z)
    (hc : z.length = n ∧ 0 < n ∧ (0 < len ∨ ps.size = 0) ∧ len * n ≤ 100000) (hp : rdyP (fun i => some (i * n, n)) (len * n) ps.toList = some q) (he : kLit s len n (opP T (List.replicate len z).flatten q) = some (r, s'))
    (hE : Env sl g w s.nx T ρ) (hy : ∀ t, t ∈ q.flatMap (fun p => p.2.2.slot) → sl t) (hs : Sim s.H.get g s.nx w) : Own.Yields P o ρ w (Good s g w r s') := by
  obtain ⟨hzl, hpos, hlen, hsm⟩ := hc
  unfold kLit at he
  split at he
  · rename_i l h0
    injection he with he; injection he with h1 h2; subst h1; subst h2
    obtain ⟨it, zv, h3, h4, h5, h6⟩ := zero_rel (g := g) (w := w) hz
    have hsz := info_size h3 hn
    have hzc : zv.cells.size = n := by have := h5.length; simp at this; omega
    have hzero : All2 (RC g w) (List.replicate len z).flatten ((Array.range (len * n)).map (zv.cells[· % zv.cells.size]!)).toList := by
      have := rep_rel h5 len
      rw [hzc] at this ⊢
      exact this
    obtain ⟨cells, c1, c2, c3⟩ := fill_rel hE (l := (List.replicate len z).flatten) (by rw [flat_len, hzl]; exact hp) h0 hzero (rep_lt fun x hx => h6 x hx _) hy
    obtain ⟨g', h7, h8⟩ := Good.new (t := elem) hs c3 c2
    have hcl : cells.size = len * n := by
      have e1 := c2.length
      have e2 : ∀ {q : List (Nat × Nat × O)} {l l' : List C}, opP T l q = some l' → (∀ p ∈ q, p.1 + p.2.1 ≤ l.length) → l'.length = l.length := by
        intro q
        induction q with
        | nil => intro l l' h _; simp only [opP] at h; injection h with h; rw [h]
        | cons p q ih =>
          intro l l' h hq
          obtain ⟨off, m, x⟩ := p
          simp only [opP] at h
          split at h
          · rename_i v _
            split at h
            · rename_i hm
              have h9 : off + m ≤ l.length := hq (off, m, x) (by simp)
              have h8 : (Ev.setAt l off v.cells).length = l.length := setAt_length (by omega)
              rw [ih h (fun p hp => by rw [h8]; exact hq p (by simp [hp])), h8]
            · cases h
          · cases h
      have e3 : ∀ {ps : List (Nat × Operand)} {q : List (Nat × Nat × O)}, rdyP (fun i => some (i * n, n)) (len * n) ps = some q → ∀ p ∈ q, p.1 + p.2.1 ≤ len * n := by
        intro ps
        induction ps with
        | nil => intro q h p hp; simp only [rdyP] at h; injection h with h; subst h; cases hp
        | cons a ps ih =>
          intro q h p hp
          obtain ⟨i, x⟩ := a
          simp only [rdyP] at h
          split at h
          · rename_i off m y q' a1 a2 a3
            split at h
            · rename_i hf
              injection h with h; subst h
              rcases List.mem_cons.1 hp with rfl | hp
              · exact hf
              · exact ih a3 p hp
            · cases h
          · cases h
      have e4 := e2 h0 (fun p hp => by rw [flat_len, hzl]; exact e3 (by assumption) p hp)
      rw [flat_len, hzl] at e4
      simp at e1; omega
    have hlm : len ≤ 100000 := Nat.le_trans (Nat.le_mul_of_pos_right len hpos) hsm
    refine yields_value (v := .slice (some ⟨w.heap.size, 0, none⟩) len len) (w' := w.alloc (.cells cells elem)) ?_ ⟨g', h7, ⟨len, ⟨Nat.le_refl _, Nat.le_refl _⟩, by have := maxLen_ge; omega, ?_, by rw [h8]⟩, Nat.lt_succ_self _⟩
    · have hps : (ps.map fun x => (x.1, ρ x.2)).toList = ps.toList.map fun x => (x.1, ρ x.2) := by simp
      rcases Nat.eq_zero_or_pos len with h9 | h9
      · subst h9
        have e : ps = #[] := by rcases hlen with h | h; · omega
                                · exact Array.eq_empty_of_size_eq_zero h
        subst e
        have e2 : cells = #[] := Array.eq_empty_of_size_eq_zero (by rw [hcl]; simp)
        subst e2
        simp [execOp, ho, Instr.buildSlice, Sem.run_bind, run_underlying hu, run_size hn, Instr.fill, newRow, newObj, Sem.run, show Array.range 0 = #[] from rfl]
      · have hne : ¬ len * it.size = 0 := by rw [hsz]; exact Nat.ne_of_gt (Nat.mul_pos h9 hpos)
        have hrun := run_buildSlice (P := P) w t elem len (ps.map fun x => (x.1, ρ x.2)) cells it zv hu h3 h4 (by rw [hsz]; omega) hne (by rw [hsz, hps]; exact c1)
        simp only [execOp, ho]
        rw [Sem.run_bind, hrun]; rfl
    · rw [h8, bsz_new, hcl]; omega
  · cases he
end Go.Ev
end
/- ev: operations of memory: loads, stores, made slices; a block under a new name. No program. -/
section
namespace Go.Ev
open Go.RowKit Go.Own
section
variable {W W' : Nat → Prop} {K K' K'' : Mem} {g g' g'' : Gh} {nx nx' nx'' : Nat} {w w' w'' : World}
theorem Sim.drew (h : Sim K g nx w) : Sim K g nx w.drew := ⟨h.blk, h.inj, h.dsz⟩
theorem drew_step (h : Sim K g nx w) : Step W K g nx w K g nx w.drew :=
  { h.rfl_step W with sim := h.drew }
theorem rc_drew {x : C} {v : Value} (h : RC g w x v) : RC g w.drew x v := by cases x <;> exact h
/-- A block gets a new name. -/
def Gh.ren (g : Gh) (nx b : Nat) : Gh := { m := fun k => if k = nx then g.m b else g.m k, D := g.D }
theorem Sim.ren_step (h : Sim K g nx w) {b : Nat} {l : List C} (hb : K b = some l) (hW : W b) (hK : ∀ b' x, K' b' = some x → (b' = nx ∧ x = l) ∨ (b' ≠ nx ∧ b' ≠ b ∧ K b' = some x)) :
    Step W K g nx w K' (g.ren nx b) (nx + 1) w := by
  have hm : ∀ k, k < nx → (g.ren nx b).m k = g.m k := fun k hk => by simp only [Gh.ren]; rw [if_neg (by omega)]
  have hn : (g.ren nx b).m nx = g.m b := by simp [Gh.ren]
  have hrc : ∀ x v, C.lt nx x → RC g w x v → RC (g.ren nx b) w x v := by
    intro x v hx hr
    cases x with
    | i k n => exact hr
    | b x => exact hr
    | ns => exact hr
    | v x => exact hr
    | dig n => exact hr
    | dptr n => exact hr
    | ptr k off =>
      simp only [RC] at hr ⊢
      rw [hm k hx]; exact hr
    | sl k off len cap u =>
      obtain ⟨c, h1, h2, h3, h4⟩ := hr
      exact ⟨c, h1, h2, by rw [hm k hx]; exact h3, by rw [hm k hx]; exact h4⟩
    | fn f caps =>
      simp only [RC] at hr ⊢
      rw [hr]
      congr 2
      refine List.map_congr_left fun p hp => ?_
      simp only [capV]
      rw [hm p.1 (hx p hp)]
  refine { sim := ⟨?_, ?_, h.dsz⟩, mono := by omega, agree := hm, dig := fun _ h => h, dnew := fun _ h => .inl h, frame := fun _ _ _ => rfl, img := ?_, live := ?_, bs := fun _ => Nat.le_refl _, size := Nat.le_refl _, os := rfl, tape := rfl, output := rfl }
  · intro b' x hx
    rcases hK b' x hx with ⟨rfl, rfl⟩ | ⟨hne, _, hx⟩
    · obtain ⟨h1, h2, h3, cs, t, h4, h5, h6⟩ := h.blk b x hb
      refine ⟨by omega, fun y hy => lt_mono (by omega) (h2 y hy), by rw [hn]; exact h3, cs, t, by rw [hn]; exact h4, h5, ?_⟩
      intro i y hy
      obtain ⟨v, h7, h8⟩ := h6 i y hy
      exact ⟨v, h7, hrc y v (h2 y (List.mem_of_getElem? hy)) h8⟩
    · obtain ⟨h1, h2, h3, cs, t, h4, h5, h6⟩ := h.blk b' x hx
      refine ⟨by omega, fun y hy => lt_mono (by omega) (h2 y hy), by rw [hm b' h1]; exact h3, cs, t, by rw [hm b' h1]; exact h4, h5, ?_⟩
      intro i y hy
      obtain ⟨v, h7, h8⟩ := h6 i y hy
      exact ⟨v, h7, hrc y v (h2 y (List.mem_of_getElem? hy)) h8⟩
  · intro b1 b2 hb1 hb2 e
    cases e1 : K' b1 with
    | none => exact absurd e1 hb1
    | some x => cases e2 : K' b2 with
      | none => exact absurd e2 hb2
      | some y =>
        have hbn := (h.blk b l hb).1
        rcases hK b1 x e1 with ⟨rfl, rfl⟩ | ⟨hne, hnb, hx⟩
        · rcases hK b2 y e2 with ⟨rfl, rfl⟩ | ⟨hne2, hnb2, hy⟩
          · rfl
          · rw [hn, hm b2 (h.blk b2 y hy).1] at e
            exact absurd (h.inj b b2 (by rw [hb]; simp) (by rw [hy]; simp) e).symm hnb2
        · rcases hK b2 y e2 with ⟨rfl, rfl⟩ | ⟨hne2, hnb2, hy⟩
          · rw [hn, hm b1 (h.blk b1 x hx).1] at e
            exact absurd (h.inj b1 b (by rw [hx]; simp) (by rw [hb]; simp) e) hnb
          · rw [hm b1 (h.blk b1 x hx).1, hm b2 (h.blk b2 y hy).1] at e
            exact h.inj b1 b2 (by rw [hx]; simp) (by rw [hy]; simp) e
  · intro b' hbn hk
    cases e1 : K' b' with
    | none => exact absurd e1 hk
    | some x =>
      rcases hK b' x e1 with ⟨rfl, rfl⟩ | ⟨hne, _, hx⟩
      · exact .inl ⟨b, hW, by rw [hb]; simp, hn.symm⟩
      · have := (h.blk b' x hx).1; omega
  · intro b' hbn hk
    cases e1 : K' b' with
    | none => exact absurd e1 hk
    | some x =>
      rcases hK b' x e1 with ⟨rfl, rfl⟩ | ⟨hne, _, hx⟩
      · omega
      · rw [hx]; simp
end
variable {P : Program} {sl : Nat → Prop} {g : Gh} {w : World} {nx : Nat} {T : Tr A} {ρ : Operand → Value} {o : Oper} {s s' : S} {r : A}
theorem agg_desc {t : TypeId} {b : Bool} (h : isAgg P t = some b) : ∃ d, P.underlying t = some d ∧ (match d with | .struct _ | .array _ _ => true | _ => false) = b := by
  simp only [isAgg, Option.map_eq_some_iff] at h
  obtain ⟨d, h1, h2⟩ := h
  refine ⟨d, h1, ?_⟩
  rw [← h2]
  cases d <;> rfl
/-- A part of a block. -/
theorem run_part {K : Mem} (hs : Sim K g nx w) {b off n : Nat} {l : List C} {ag : Bool} {t : TypeId} {a : A} (hb : K b = some l) (hag : isAgg P t = some ag) (hn : sizeOf P t = some n) (hp : part ag n l off = some a) :
    ∃ v, (loadVar t ⟨g.m b, off, none⟩).run P w = .ok v w ∧ RA g w a v ∧ a.lt nx := by
  obtain ⟨h1, h2, _, cs, t', h4, h5, h6⟩ := hs.blk b l hb
  have hB : Blk w (g.m b) cs.toList t' := by unfold Blk; rw [h4]
  cases ag with
  | true =>
    simp only [part] at hp
    split at hp
    · rename_i q h7
      injection hp with hp; subst hp
      unfold takeAt at h7
      split at h7
      · rename_i hf
        injection h7 with h7; subst h7
        obtain ⟨d, h8, h9⟩ := agg_desc hag
        refine ⟨.agg ((cs.toList.drop off).take n).toArray, run_loadVar_blk hB h8 (by cases d <;> first | rfl | cases h9) hn (by simp; omega), ⟨_, rfl, ?_⟩, fun y hy => h2 y (List.mem_of_mem_drop (List.mem_of_mem_take hy))⟩
        refine All2.of_get (by simp; omega) fun i x v hx hv => ?_
        have hi : i < n := by have := (List.getElem?_eq_some_iff.1 hx).1; simp at this; omega
        rw [List.getElem?_take_of_lt hi, List.getElem?_drop] at hx hv
        obtain ⟨u, h10, h11⟩ := h6 _ x hx
        have : u = v := by simp at hv; rw [h10] at hv; injection hv
        exact this ▸ h11
      · cases h7
    · cases hp
  | false =>
    simp only [part] at hp
    split at hp
    · rename_i q h7
      injection hp with hp; subst hp
      obtain ⟨v, h8, h9⟩ := h6 _ q h7
      refine ⟨v, ?_, h9, h2 q (List.mem_of_getElem? h7)⟩
      have hc : w.cell? ⟨g.m b, off, none⟩ = some v := hB.cell (by simpa using h8)
      simp [loadVar, Sem.run_bind, run_agg hag, hc]
    · cases hp
theorem s_ld {t : TypeId} {x : Operand} {y : O} {n : Nat} {ag : Bool} (ho : o.op = .load t x) (hag : isAgg P t = some ag) (hn : sizeOf P t = some n) (hx : rdyO x = some y) (he : kLd s ag n (opA T y) = some (r, s'))
    (hE : Env sl g w s.nx T ρ) (hy : ∀ t ∈ y.slot, sl t) (hs : Sim s.H.get g s.nx w) : Own.Yields P o ρ w (Good s g w r s') := by
  unfold kLd at he
  split at he
  · rename_i b off h0
    obtain ⟨h3, h4⟩ := hE.op hx hy h0
    split at he
    · rename_i l h1
      obtain ⟨h2, rfl⟩ := mv_same he
      obtain ⟨v, h5, h6, h7⟩ := run_part hs h1 hag hn h2
      refine yields_value (v := v) (w' := w) ?_ (Good.same hs h6 h7)
      simp [execOp, ho, Instr.loadAt, Instr.sureAddr, show ρ x = _ from h3, h5]
    · cases he
  · rename_i d h0
    obtain ⟨⟨c, off, h3, h4, h5, h6⟩, _⟩ := hE.op hx hy h0
    split at he
    · injection he with he; injection he with h1 h2; subst h1; subst h2
      refine yields_value (v := .int .i64 d) (w' := w) ?_ (Good.same hs rfl trivial)
      simp [execOp, ho, Instr.loadAt, Instr.sureAddr, Sem.run_bind, h3, loadVar, run_agg hag, h6]
    · cases he
  · cases he
/-- Cells of a block are written. -/
theorem Good.put {s : S} (hs : Sim s.H.get g s.nx w) {b off : Nat} {l xs : List C} {vs : List Value} (hb : s.H.get b = some l) (hx : All2 (RC g w) xs vs) (hxl : ∀ x ∈ xs, x.lt s.nx) (hf : off + xs.length ≤ l.length) :
    ∃ w', (∀ i cur, i = 0 → cur = off → (storeCells ⟨g.m b, cur, none⟩ vs i).run P w = .ok () w') ∧ StepS s g w (s.put b (setAt l off xs)) g w' := by
  obtain ⟨h1, h2, h3, cs, t, h4, h5, h6⟩ := hs.blk b l hb
  have hlen := hx.length
  have hst := run_storeCells_at P (g.m b) off t vs 0 cs w h4 (by omega) (all_one hx)
  refine ⟨_, fun i cur hi hc => by subst hi; subst hc; exact hst, ?_, fun k hk => List.mem_cons_of_mem _ hk⟩
  simp only [Nat.add_zero]
  have hcz : (cs.toList.take off ++ vs ++ cs.toList.drop (off + vs.length)).length = cs.size := by simp; omega
  refine hs.put_step (l' := setAt l off xs) (cs := cs) (t := t) (t' := t) hb h4 (List.mem_cons_self ..) (setRow_heap w _ _ _ t (0, 0) h4) oth_setRow (by simp at hcz ⊢; omega) ?_ ?_ ?_ ?_
  · intro x hx2
    rcases mem_setAt hx2 with h | h
    · exact h2 x h
    · exact hxl x h
  · rw [setAt_length hf]; simp at hcz ⊢; omega
  · intro i x hi
    obtain ⟨v, h7, h8⟩ := pre_setAt (R := RC g w) (cs := cs.toList) (fun i x hi => by obtain ⟨v, h7, h8⟩ := h6 i x hi; exact ⟨v, by simpa using h7, h8⟩) hx hf (by simp; exact h5) i x hi
    exact ⟨v, by simpa using h7, h8⟩
  · intro b' x hx2
    rcases Tr.get_set _ _ _ _ _ _ (show (Tr.set depth s.H b (some (setAt l off xs))).get b' = some x from hx2) with ⟨e1, e2⟩ | h
    · exact .inl ⟨e1, by injection e2 with e2; exact e2.symm⟩
    · exact .inr h
theorem s_st {t : TypeId} {x y : Operand} {x' y' : O} {n : Nat} (ho : o.op = .store t x y) (hn : sizeOf P t = some n) (hx : rdyO x = some x') (hy : rdyO y = some y') (he : kSt s n (opA T x') (opA T y') = some (r, s'))
    (hE : Env sl g w s.nx T ρ) (hl : ∀ t, t ∈ x'.slot ++ y'.slot → sl t) (hs : Sim s.H.get g s.nx w) : Own.Yields P o ρ w (Good s g w r s') := by
  unfold kSt at he
  split at he
  · rename_i b off v h0 h1
    obtain ⟨h3, _⟩ := hE.op hx (fun t ht => hl t (by simp [ht])) h0
    obtain ⟨h4, h5⟩ := hE.op hy (fun t ht => hl t (by simp [ht])) h1
    split at he
    · rename_i l h2
      split at he
      · rename_i hc
        injection he with he; injection he with e1 e2; subst e1; subst e2
        have hcr := cells_rel h4
        obtain ⟨w', h6, h7⟩ := Good.put (P := P) hs h2 hcr (cells_lt h5) (off := off) (by omega)
        have hz : (ρ y).cells.size = n := by have := hcr.length; simp at this; omega
        have hrun : (execOp ρ o).run P w = .ok .skip w' := by
          simp [execOp, ho, Instr.storeAt, Instr.sureAddr, Sem.run_bind, show ρ x = _ from h3, storeVar, run_size hn, hz, h6 0 off rfl rfl]
        unfold Own.Yields
        rw [hrun]
        exact ⟨g, h7, ⟨[], rfl, trivial⟩, fun x hx => by cases hx⟩
      · cases he
    · cases he
  · cases he
theorem run_makeSlice {t elem : TypeId} {ie : TypeInfo} {zv : Value} {k1 k2 : IntKind} {len cap : Nat} (hu : P.underlying t = some (.slice elem)) (hi : P.info? elem = some ie) (hz : ie.zero = some zv)
    (hlc : len ≤ cap) (hcap : cap ≤ 100000) (hby : ie.bytes ≤ 1000000) :
    (Instr.makeSlice t (.int k1 (len : Int)) (.int k2 (cap : Int))).run P w = .ok (.slice (some ⟨w.heap.size, 0, none⟩) len cap) (w.alloc (.cells ((Array.range (cap * ie.size)).map (zv.cells[· % zv.cells.size]!)) elem)) := by
  have w1 : IntKind.i64.wrap (len : Int) = len := by simp only [IntKind.wrap, IntKind.signed, IntKind.bits]; simp; omega
  have w2 : IntKind.i64.wrap (cap : Int) = cap := by simp only [IntKind.wrap, IntKind.signed, IntKind.bits]; simp; omega
  have h2 : ie.bytes * cap ≤ 1000000 * 100000 := Nat.mul_le_mul hby hcap
  have h3 : ¬ ((281474976710656 : Int) < (ie.bytes : Int) * (cap : Int)) := by
    have : ((ie.bytes * cap : Nat) : Int) ≤ ((1000000 * 100000 : Nat) : Int) := Int.ofNat_le.2 h2
    rw [Int.natCast_mul] at this
    omega
  have h4 : ¬ ((cap : Int) < (len : Int)) := by omega
  have n1 : ¬ ((cap : Int) < 0) := by omega
  have n2 : ¬ ((len : Int) < 0) := by omega
  have h5 : ¬ (roomBytes < cap * ie.bytes) := by
    have : cap * ie.bytes ≤ 1000000 * 100000 := by rw [Nat.mul_comm]; exact h2
    have h6 : roomBytes = 140737488355328 := by decide
    rw [h6]; omega
  have hsz : (Go.sizeOf elem).run P w = .ok ie.size w := by simp [Go.sizeOf, typeInfo, Sem.run_bind, hi]
  by_cases h6 : cap * ie.size = 0
  · have e : (Array.range (cap * ie.size)).map (zv.cells[· % zv.cells.size]!) = #[] := by rw [h6, show Array.range 0 = #[] from rfl]; simp
    rw [e]
    simp [Instr.makeSlice, Sem.run_bind, run_underlying hu, asInt, asIntOf, typeInfo, hi, w1, w2, h3, h4, n1, n2, askRoom, hsz, h6, newRow, newObj, Sem.run, show Array.range 0 = #[] from rfl]
  · simp [Instr.makeSlice, Sem.run_bind, run_underlying hu, asInt, asIntOf, typeInfo, hi, w1, w2, h3, h4, n1, n2, askRoom, hsz, h6, newRow, newObj, Sem.run, run_zero hi hz]
theorem s_make {t elem : TypeId} {x y : Operand} {x' y' : O} {n : Nat} {z : List C} (ho : o.op = .makeSlice t x y) (hu : P.underlying t = some (.slice elem)) (hn : sizeOf P elem = some n) (hz : zeroCells P elem = some z)
    (hc : z.length = n ∧ 0 < n ∧ (P.info? elem).map (fun i => decide (i.bytes ≤ 1000000)) = some true) (hx : rdyO x = some x') (hy : rdyO y = some y') (he : kMake s z n (opA T x') (opA T y') = some (r, s'))
    (hE : Env sl g w s.nx T ρ) (hl : ∀ t, t ∈ x'.slot ++ y'.slot → sl t) (hs : Sim s.H.get g s.nx w) : Own.Yields P o ρ w (Good s g w r s') := by
  obtain ⟨hzl, hpos, hby⟩ := hc
  unfold kMake at he
  split at he
  · rename_i len cap h0 h1
    split at he
    · rename_i hlc
      injection he with he; injection he with e1 e2; subst e1; subst e2
      obtain ⟨k1, hk1⟩ := nat_rel (v := ρ x) h0 (fun a ha => (hE.op hx (fun t ht => hl t (by simp [ht])) ha).1)
      obtain ⟨k2, hk2⟩ := nat_rel (v := ρ y) h1 (fun a ha => (hE.op hy (fun t ht => hl t (by simp [ht])) ha).1)
      obtain ⟨it, zv, h3, h4, h5, h6⟩ := zero_rel (g := g) (w := w) hz
      have hsz := info_size h3 hn
      have hzc : zv.cells.size = n := by have := h5.length; simp at this; omega
      have hcap : cap ≤ 100000 := Nat.le_trans (Nat.le_mul_of_pos_right cap hpos) hlc.2
      have hb : it.bytes ≤ 1000000 := by simpa [h3] using hby
      have hrun := run_makeSlice (P := P) (w := w) (k1 := k1) (k2 := k2) hu h3 h4 hlc.1 hcap hb
      have hrel := rep_rel h5 cap
      rw [hzc, ← hsz] at hrel
      obtain ⟨g', h7, h8⟩ := Good.new (t := elem) hs (rep_lt (n := cap) fun x hx => h6 x hx _) hrel
      refine yields_value (v := .slice (some ⟨w.heap.size, 0, none⟩) len cap) (w' := _) ?_ ⟨g', h7, ⟨cap, ⟨hlc.1, Nat.le_refl _⟩, by have := maxLen_ge; omega, ?_, by rw [h8]⟩, Nat.lt_succ_self _⟩
      · simp only [execOp, ho, hk1, hk2]
        rw [Sem.run_bind, hrun]
        simp only [hzc, ← hsz]
        rfl
      · rw [h8, bsz_new]; simp [hsz]
    · cases he
  · cases he
end Go.Ev
end
