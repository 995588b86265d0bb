/- Ranging over a map with int keys, known entry by entry. Any program. -/
import Derived.Test.YtcbmifaobdamhaaMp
import Derived.Maps.RangeWalk
namespace Go.Own
open Go.RowKit Go.MapKept Go.ChangeMaps
/-- Block r is an iterator over the map in block b, whose entries are m; left: which keys are still to come; cnt: how many. -/
def IIt (w : World) (b r : Nat) (m : List (Int × Value)) (left : Int → Bool) (cnt : Nat) : Prop :=
  ∃ es clock since seen c0, w.heap[b]? = some (.map es clock) ∧ Stamped es clock ∧ es.toList.map (fun e => (e.key, e.val)) = m.map (fun p => (Value.int .i64 p.1, p.2)) ∧
    w.heap[r]? = some (.mapIter (some b) since seen c0) ∧ (∀ x ∈ es.toList, x.born < since) ∧ since ≤ c0 ∧ since ≤ clock ∧ (leftOf es seen).size = cnt ∧
    (∀ e ∈ es.toList, ∀ k, e.key = .int .i64 k → left k = !seen.contains e.born) ∧ (∀ k, left k = true → k ∈ m.map (·.1))
theorem IIt.lt {w : World} {b r : Nat} {m : List (Int × Value)} {left : Int → Bool} {cnt : Nat} (h : IIt w b r m left cnt) : b < w.heap.size ∧ r < w.heap.size := by
  obtain ⟨es, clock, since, seen, c0, h1, _, _, h2, _⟩ := h
  exact ⟨(Array.getElem?_eq_some_iff.1 h1).1, (Array.getElem?_eq_some_iff.1 h2).1⟩
theorem IIt.imap {w : World} {b r : Nat} {m : List (Int × Value)} {left : Int → Bool} {cnt : Nat} (h : IIt w b r m left cnt) : IMap w b m := by
  obtain ⟨es, clock, since, seen, c0, h1, h2, h3, _⟩ := h
  exact ⟨es, clock, h1, h2, h3⟩
theorem IIt.same {w w' : World} {b r : Nat} {m : List (Int × Value)} {left : Int → Bool} {cnt : Nat} (h : IIt w b r m left cnt) (hb : w'.heap[b]? = w.heap[b]?) (hr : w'.heap[r]? = w.heap[r]?) : IIt w' b r m left cnt := by
  obtain ⟨es, clock, since, seen, c0, h1, h2, h3, h4, rest⟩ := h
  exact ⟨es, clock, since, seen, c0, hb.trans h1, h2, h3, hr.trans h4, rest⟩
theorem IIt.chg {F : List Nat} {w w' : World} {b r : Nat} {m : List (Int × Value)} {left : Int → Bool} {cnt : Nat} (h : IIt w b r m left cnt) (hc : Chg F w w') (hb : b ∉ F) (hr : r ∉ F) : IIt w' b r m left cnt :=
  h.same (hc.block b h.lt.1 hb) (hc.block r h.lt.2 hr)
theorem IIt.left_eq {w : World} {b r : Nat} {m : List (Int × Value)} {left : Int → Bool} {cnt : Nat} (h : IIt w b r m left cnt) : w.rangeLeft b r = cnt := by
  obtain ⟨es, clock, since, seen, c0, h1, _, _, h4, _, _, _, h8, _⟩ := h
  unfold World.rangeLeft
  rw [h1, h4]
  exact h8
theorem entries_key {es : Array MapEntry} {m : List (Int × Value)} (h : es.toList.map (fun e => (e.key, e.val)) = m.map (fun p => (Value.int .i64 p.1, p.2))) {e : MapEntry} (he : e ∈ es.toList) : ∃ p ∈ m, e.key = .int .i64 p.1 ∧ e.val = p.2 := by
  have h1 : (e.key, e.val) ∈ es.toList.map (fun e => (e.key, e.val)) := List.mem_map.2 ⟨e, he, rfl⟩
  rw [h] at h1
  obtain ⟨p, hp, e1⟩ := List.mem_map.1 h1
  injection e1 with e1 e2
  exact ⟨p, hp, e1.symm, e2.symm⟩
theorem entries_of {es : Array MapEntry} {m : List (Int × Value)} (h : es.toList.map (fun e => (e.key, e.val)) = m.map (fun p => (Value.int .i64 p.1, p.2))) {p : Int × Value} (hp : p ∈ m) : ∃ e ∈ es.toList, e.key = .int .i64 p.1 ∧ e.val = p.2 := by
  have h1 : (Value.int .i64 p.1, p.2) ∈ m.map (fun p => (Value.int .i64 p.1, p.2)) := List.mem_map.2 ⟨p, hp, rfl⟩
  rw [← h] at h1
  obtain ⟨e, he, e1⟩ := List.mem_map.1 h1
  injection e1 with e1 e2
  exact ⟨e, he, e1, e2⟩
section
variable {P : Program} {w : World} {ops : Array Oper} {rest : List Oper} {o : Oper} {a : Act} {Q : Exit → Act → World → Prop}
/-- 'range m' -/
theorem wpList_range_imap {b : Nat} {m : List (Int × Value)} (hg : o.guard = none) (x : Operand) (t k e : TypeId) (hop : o.op = Op.range t x) (ht : P.underlying t = some (.map k e)) (hx : a.eval x = .map (some b)) (hm : IMap w b m)
    (hK : ∀ w', IIt w' b w.heap.size m (fun k => decide (k ∈ m.map (·.1))) m.length → Below w.heap.size w w' → w'.heap.size = w.heap.size + 1 → wpList P ops Q rest (a.put o.dst (.pointer (some ⟨w.heap.size, 0, none⟩))) w') :
    wpList P ops Q (o :: rest) a w := by
  refine wpList_plain hg fun K' hK' => ?_
  have hlt := hm.lt
  obtain ⟨es, clock, hb, hs, h4⟩ := hm
  have hst := (stamped_iff es clock).1 hs
  have hrun := run_range_map w t k e b es clock ht hb
  have h := hK _ ⟨es, clock, clock, #[], clock, ((MapKept.heap_alloc w _).2 b hlt).trans hb, hs, h4, (MapKept.heap_alloc w _).1, hst.1, Nat.le_refl _, Nat.le_refl _, ?_, fun e he k hk => ?_, fun k hk => of_decide_eq_true hk⟩ ((Below.refl _ _).alloc (Nat.le_refl _) _) (by simp)
  · unfold Oper.wp
    simp [execOp, hop, hx, hrun, Result.andThen]
    exact hK' _ _ h
  · have h5 := congrArg List.length h4
    simp at h5
    have h6 : leftOf es #[] = es := by unfold leftOf; simp
    rw [h6]; exact h5
  · obtain ⟨p, hp, e1, _⟩ := entries_key h4 he
    rw [e1] at hk
    injection hk with _ hk
    subst hk
    simp
    exact ⟨_, by simpa using hp⟩
/-- the step -/
theorem wpList_next_imap {b r : Nat} {m : List (Int × Value)} {left : Int → Bool} {cnt : Nat} (hg : o.guard = none) (it : Operand) (hop : o.op = Op.next it false) (hit : a.eval it = .pointer (some ⟨r, 0, none⟩)) (h : IIt w b r m left cnt)
    (hDone : cnt = 0 → (∀ k, left k = false) → wpList P ops Q rest (a.put o.dst (.tuple #[.bool false])) w)
    (hMore : ∀ (k : Int) (v : Value) (w' : World) (cnt' : Nat), (k, v) ∈ m → left k = true → IIt w' b r m (fun z => left z && z != k) cnt' → cnt' < cnt → Chg [r] w w' → w'.heap.size = w.heap.size →
      (Instr.entry (.pointer (some ⟨r, 0, none⟩))).run P w' = .ok (.tuple #[.int .i64 k, v]) w' → wpList P ops Q rest (a.put o.dst (.tuple #[.bool true, .int .i64 k, v])) w') :
    wpList P ops Q (o :: rest) a w := by
  refine wpList_plain hg fun K' hK' => ?_
  unfold Oper.wp
  obtain ⟨es, clock, since, seen, c0, hb, hs, h4, hr, hold, hsc, hsk, hcnt, hl1, hl2⟩ := h
  have hst := (stamped_iff es clock).1 hs
  have hne : r ≠ b := by
    rintro rfl
    rw [hr] at hb
    cases hb
  rcases run_next_at (P := P) w o.type r b since c0 seen es clock hr hb hold hsc with ⟨h0, hrun⟩ | ⟨e, he, w1, hal, hrun⟩
  · have hl : ∀ k, left k = false := fun k => by
      cases hk : left k with
      | false => rfl
      | true =>
        obtain ⟨p, hp, rfl⟩ := List.mem_map.1 (hl2 k hk)
        obtain ⟨e, he, e1, _⟩ := entries_of h4 hp
        rw [hl1 e he _ e1, all_seen es seen h0 e he] at hk
        cases hk
    simp [execOp, hop, hit, hrun, Result.andThen]
    exact hK' _ _ (hDone (by omega) hl)
  · obtain ⟨hem, hes⟩ := mem_left he
    obtain ⟨p, hp, e1, e2⟩ := entries_key h4 hem
    have hr1 : w1.heap[r]? = some (.mapIter (some b) since seen c0) := by rcases hal with rfl | rfl <;> exact hr
    have hb1 : w1.heap[b]? = some (.map es clock) := by rcases hal with rfl | rfl <;> exact hb
    have hset := heap_set (o' := .mapIter (some b) since (seen.push e.born) clock) hr1
    have hb' : (setBlock w1 r (.mapIter (some b) since (seen.push e.born) clock)).heap[b]? = some (.map es clock) := (hset.2 b (fun e1 => hne e1.symm)).trans hb1
    have hen := run_entry_at (P := P) _ r b since seen es clock e hset.1 hb' hem hst.2.1
    rw [e1, e2] at hrun hen
    simp [execOp, hop, hit, hrun, Result.andThen]
    refine hK' _ _ (hMore p.1 p.2 _ _ hp (by rw [hl1 e hem _ e1, hes]; rfl) ⟨es, clock, since, seen.push e.born, clock, hb', hs, h4, hset.1, hold, hsk, hsk, rfl, fun x hx k hk => ?_, fun k hk => hl2 k (by simp at hk; exact hk.1)⟩
      (by rw [← hcnt]; exact left_shrinks es seen e he) ?_ ?_ hen)
    · show (left k && k != p.1) = _
      rw [hl1 x hx k hk, contains_push]
      by_cases hb2 : x.born = e.born
      · obtain rfl := born_inj hst.2.1 hx hem hb2
        rw [e1] at hk
        injection hk with _ hk
        subst hk
        simp
      · have hk2 : k ≠ p.1 := by
          rintro rfl
          refine hb2 ?_
          have hxe : x.key = e.key := by rw [hk, e1]
          by_cases hxe2 : x = e
          · rw [hxe2]
          · exact absurd hxe (fun h => hxe2 (entry_eq_of_key hst.2.2 hx hem h))
        have h1 : (k != p.1) = true := by simpa using hk2
        have h2 : (x.born == e.born) = false := by simpa using hb2
        rw [h1, h2]; simp
    · rcases hal with rfl | rfl
      · exact ⟨rfl, rfl, rfl, by simp [setBlock], fun i _ hi => hset.2 i (fun e1 => hi (by rw [e1]; simp))⟩
      · exact ⟨rfl, rfl, rfl, by simp [setBlock], fun i _ hi => hset.2 i (fun e1 => hi (by rw [e1]; simp))⟩
    · rcases hal with rfl | rfl <;> simp [setBlock]
end
end Go.Own
