/- The same walk, for a region whose order is forced: each operation in some world that grew out of the first one. -/
import Derived.Test.YtnkinjilnccmfaaSq
namespace Go.Own
open Go.RowKit
theorem Yields.mono {P : Program} {o : Oper} {ρ : Operand → Value} {w : World} {R R' : Value → World → Prop} (h : Yields P o ρ w R) (hR : ∀ v w', R v w' → R' v w') : Yields P o ρ w R' := by
  unfold Yields at *
  cases hr : (execOp ρ o).run P w with
  | halt x w1 => rw [hr] at h; exact h.elim
  | ok nx w1 =>
    rw [hr] at h
    cases nx <;> first | exact h.elim | skip
    case value u => exact hR _ _ h
    case skip => exact hR _ _ h
    case enter f args =>
      refine Calls.mono h ?_
      rintro e w'' ⟨v, he, hv⟩
      exact ⟨v, he, hR _ _ hv⟩
    case row r args => exact Rows.mono h hR
section
variable {P : Program} {l : List Oper} {n N : Nat} {ps : List Nat} {Ext : World → World → Prop} {w0 : World} {Post : Nat → Value → World → Prop}

theorem wpList_of_yields {ops : Array Oper} {Q : Exit → Act → World → Prop} {o : Oper} {rest : List Oper} {a : Act} {w : World} (hw : Region.wanted o (yielded ops a.tmps) = true)
    (h : Yields P o a.eval w (fun v w' => wpList P ops Q rest (a.put o.dst v) w')) : wpList P ops Q (o :: rest) a w := by
  unfold wpList
  rw [if_pos hw]
  exact .inl (wp_of_yields h fun v w' hv => hv)
theorem wpList_skip {ops : Array Oper} {Q : Exit → Act → World → Prop} {o : Oper} {rest : List Oper} {a : Act} {w : World} (hw : Region.wanted o (yielded ops a.tmps) = false)
    (h : wpList P ops Q rest (a.put o.dst undef) w) : wpList P ops Q (o :: rest) a w := by
  unfold wpList
  rw [if_neg (by rw [hw]; exact Bool.false_ne_true)]
  exact h

theorem wpList_of_sqw (F : SqF l n N) (hrefl : ∀ w, Ext w w) (htrans : ∀ a b c, Ext a b → Ext b c → Ext a c) (stable : ∀ i v w w', Post i v w → Ext w w' → Post i v w') {a0 : Act} (hN : a0.tmps.size = N) {Q : Exit → Act → World → Prop} (hn : n ≤ l.length)
    (h0 : SqW P l ps Ext w0 Post (fun a' => ∀ w', Ext w0 w' → (∀ j d, j < n → ps.contains j = true → (l[j]?).bind (·.dst) = some d → (∀ o', l[j]? = some o' → Region.wanted o' (yielded l.toArray a'.tmps) = true) → Post j (a'.tmps.getD d undef) w') →
      wpList P l.toArray Q (l.drop n) a' w') 0 (l.take n) a0) :
    ∀ m k, k + m = n → ∀ (u : Nat → Value) (w : World), Ext w0 w → (∀ j, j < k → Cons1 P l ps Ext w0 Post j (putAll l a0 u j) (u j)) →
      (∀ j, j < k → ps.contains j = true → (∀ o, l[j]? = some o → Region.wanted o (yielded l.toArray (putAll l a0 u j).tmps) = true) → Post j (u j) w) → wpList P l.toArray Q ((l.take n).drop k ++ l.drop n) (putAll l a0 u k) w := by
  intro m
  induction m with
  | zero =>
    intro k hk u w hext hc hpost
    obtain rfl : k = n := by omega
    have hw := sqw_along hrefl (u := u) h0 hn k (Nat.le_refl _) hc
    have hnil : (l.take k).drop k = [] := List.drop_of_length_le (by simp; omega)
    rw [hnil] at hw ⊢
    unfold SqW at hw
    rw [List.nil_append]
    refine hw w hext fun j d hj hp hd hwj => ?_
    obtain ⟨oj, hoj, hdj⟩ := Option.bind_eq_some_iff.1 hd
    rw [slot_at F hN u (Nat.le_refl _) hj hoj hdj]
    refine hpost j hj hp fun o' ho' => ?_
    rw [← hwj o' ho']
    refine wanted_same (by rw [putAll_size, putAll_size]) ?_
    exact agree_walk F hN (u := u) (u' := u) hj (Nat.le_refl _) (Nat.le_of_lt hj) (Nat.le_of_lt hj) (Nat.le_refl _) ho' fun _ _ => rfl
  | succ m ih =>
    intro k hk u w hext hc hpost
    have hwalk := sqw_along hrefl (u := u) h0 hn k (by omega) hc
    have hlt : k < (l.take n).length := by simp; omega
    have hlt2 : k < l.length := by omega
    have ho : l[k]? = some l[k] := by simp [hlt2]
    have he : (l.take n)[k] = l[k] := by simp
    rw [List.drop_eq_getElem_cons hlt, he] at hwalk ⊢
    rw [List.cons_append]
    have go : ∀ x w2, Ext w w2 → Cons1 P l ps Ext w0 Post k (putAll l a0 u k) x → (ps.contains k = true → Region.wanted l[k] (yielded l.toArray (putAll l a0 u k).tmps) = true → Post k x w2) →
        wpList P l.toArray Q ((l.take n).drop (k + 1) ++ l.drop n) ((putAll l a0 u k).put l[k].dst x) w2 := fun x w2 hext2 hcx hpx => by
      let u' : Nat → Value := fun j => if j = k then x else u j
      have hu' : ∀ j, j ≠ k → u' j = u j := fun j hj => by simp [u', hj]
      have hux : u' k = x := by simp [u']
      have hA : ∀ j, j ≤ k → putAll l a0 u' j = putAll l a0 u j := fun j hj => putAll_congr l a0 j fun i hi => hu' i (by omega)
      have hgo := ih (k + 1) (by omega) u' w2 (htrans _ _ _ hext hext2) (fun j hj => ?_) (fun j hj hp hw => ?_)
      · rw [putAll, hA k (Nat.le_refl _), hux] at hgo
        simpa only [ho, Option.bind_some] using hgo
      · rw [hA j (by omega)]
        rcases Nat.lt_or_ge j k with h | h
        · rw [hu' j (by omega)]; exact hc j h
        · obtain rfl : j = k := by omega
          rw [hux]; exact hcx
      · rw [hA j (by omega)] at hw
        rcases Nat.lt_or_ge j k with h | h
        · rw [hu' j (by omega)]; exact stable _ _ _ _ (hpost j h hp hw) hext2
        · obtain rfl : j = k := by omega
          rw [hux]; exact hpx hp (hw _ ho)
    unfold SqW at hwalk
    by_cases hw : Region.wanted l[k] (yielded l.toArray (putAll l a0 u k).tmps) = true
    · rw [if_pos hw] at hwalk
      by_cases hp : ps.contains k = true
      · rw [if_pos hp] at hwalk
        refine wpList_of_yields hw ?_
        have hy := hwalk.1 w hext fun j d hj hpj hd hwj => by
          obtain ⟨oj, hoj, hdj⟩ := Option.bind_eq_some_iff.1 hd
          have hjk := ancB_lt hj
          rw [slot_at F hN u (by omega) hjk hoj hdj]
          refine hpost j hjk hpj fun o' ho' => ?_
          rw [← hwj o' ho']
          refine wanted_same (by rw [putAll_size, putAll_size]) ?_
          exact agree_walk F hN (u := u) (u' := u) (show j < n by omega) (Nat.le_refl _) (by omega) (Nat.le_of_lt hjk) (by omega) ho' fun _ _ => rfl
        refine hy.mono fun v w' ⟨hv, hev⟩ => go v w' hev (fun o' ho'' => ?_) fun _ _ => hv
        obtain rfl : o' = l[k] := Option.some.inj (ho''.symm.trans ho)
        exact ⟨fun _ => ⟨fun _ => ⟨w', hv⟩, fun h => by rw [hp] at h; cases h⟩, fun h => by rw [hw] at h; cases h⟩
      · rw [if_neg hp] at hwalk
        obtain ⟨v, hv, _⟩ := hwalk
        refine wpList_of_yields hw (yields_value (hv w hext) (go v w (hrefl _) (fun o' ho'' => ?_) fun h => absurd h hp))
        obtain rfl : o' = l[k] := Option.some.inj (ho''.symm.trans ho)
        exact ⟨fun _ => ⟨fun h => absurd h hp, fun _ => hv⟩, fun h => by rw [hw] at h; cases h⟩
    · refine wpList_skip (by simpa using hw) (go undef w (hrefl _) (fun o' ho'' => ?_) fun _ h => absurd h hw)
      obtain rfl : o' = l[k] := Option.some.inj (ho''.symm.trans ho)
      exact ⟨fun h => absurd h hw, fun _ => rfl⟩

/-- The closed facts, where the order is forced. -/
def spB (l : List Oper) (n N : Nat) : Bool := Region.noSelect l.toArray && edgesB l.toArray && dsts2B l n N && looksB l n && decide (n ≤ l.length)

/-- A region whose order is forced. -/
theorem wp_region_spB {id : Nat} {Q : Exit → Act → World → Prop} {a : Act} {w : World} (n : Nat) (ps : List Nat) (Post : Nat → Value → World → Prop) (hB : spB l n a.tmps.size = true)
    (stable : ∀ i v w w', Post i v w → ExtB w w' → Post i v w')
    (h : SqW P l ps ExtB w Post (fun a' => ∀ w', ExtB w w' → FactsEnd l ps Post n a' w' → wpList P l.toArray Q (l.drop n) a' w') 0 (l.take n) a) : (Code.region id l.toArray false).wp P Q a w := by
  simp only [spB, Bool.and_eq_true, decide_eq_true_eq] at hB
  obtain ⟨⟨⟨⟨hsel, he⟩, hd⟩, hl⟩, hn⟩ := hB
  refine wp_region_lit ?_
  have := wpList_of_sqw (Q := Q) (sqF_of hsel he hd hl) ExtB.refl ExtB.trans stable rfl hn h n 0 (by omega) (fun _ => undef) w (ExtB.refl _) (fun j hj => by omega) (fun j hj => by omega)
  rw [List.drop_zero, List.take_append_drop] at this
  exact this
end
end Go.Own
