/- label: turned: what lies in memory on the way. -/
import Derived.Test.YtcbmifaobdamhaaP7
namespace Go.Own
open Go.RowKit
theorem Sl.set_ne {w : World} {size n : Nat} {v : Value} {vs : List Value} (h : Sl w size v n vs) {a : Addr} (u : Value) (hne : ∀ k, v.ownBlock = some k → k ≠ a.block) : Sl (w.setCell a u) size v n vs := by
  obtain ⟨h1, h2 | ⟨b, off, cap, rfl, h4, h5, h6, h7⟩⟩ := h
  · exact ⟨h1, .inl h2⟩
  · refine ⟨h1, .inr ⟨b, off, cap, rfl, h4, h5, fun i x hi => ?_, by simpa using h7⟩⟩
    exact (World.cell?_of_block (w := w) (heap_setCell_other w a b u (hne b rfl))).trans (h6 i x hi)
theorem Sl.far {w w' : World} {size n : Nat} {v : Value} {vs : List Value} {row : Option Nat} (h : Sl w size v n vs) (hg : w.grownBy w' row) (hne : ∀ k, v.ownBlock = some k → row ≠ some k) : Sl w' size v n vs :=
  h.grown hg fun k hk e => hne k hk e.symm
theorem Sl.oth {w w' : World} {size n : Nat} {v : Value} {vs : List Value} {g : Nat} (h : Sl w size v n vs) (ho : Oth g w w') (hne : ∀ k, v.ownBlock = some k → k ≠ g) : Sl w' size v n vs := by
  obtain ⟨h1, h2 | ⟨b, off, cap, rfl, h4, h5, h6, h7⟩⟩ := h
  · exact ⟨h1, .inl h2⟩
  · exact ⟨h1, .inr ⟨b, off, cap, rfl, h4, h5, fun i x hi => (World.cell?_of_block (w := w) (ho.block b (hne b rfl))).trans (h6 i x hi), by rw [ho.size]; exact h7⟩⟩
end Go.Own
namespace Go.Label
open Go.RowKit Go.Own Go.Theory
theorem cells2_snoc : ∀ {rs : List Rl} {bs : List Value} (r : Rl) (v : Value), bs.length = rs.length → cells2 (rs ++ [r]) (bs ++ [v]) = cells2 rs bs ++ [.int .i64 r.head, v]
  | [], [], _, _, _ => rfl
  | [], _ :: _, _, _, h => by cases h
  | _ :: _, [], _, _, h => by cases h
  | _ :: rs, _ :: bs, r, v, h => by
    have ih := cells2_snoc (rs := rs) (bs := bs) r v (by simpa using h)
    simp only [List.cons_append, cells2]
    rw [ih]
theorem cells2_len : ∀ {rs : List Rl} {bs : List Value}, bs.length = rs.length → (cells2 rs bs).length = rs.length * 2
  | [], [], _ => rfl
  | [], _ :: _, h => by cases h
  | _ :: _, [], h => by cases h
  | _ :: rs, _ :: bs, h => by
    have ih := cells2_len (rs := rs) (bs := bs) (by simpa using h)
    simp only [cells2, List.length_cons, ih]
    omega
/-- the rules that have come lie in memory -/
structure TurnM (tL tR : TypeId) (W0 W : World) (Bo : Nat) (F : Int) (va : Value) (rs : List Rl) (bods : List Value) (vr : Value) : Prop where
  lt : Bo < W0.heap.size
  ob : Blk W Bo [.int .i64 F, va, vr] tL
  own : W.ownsRow W0.heap.size tR 2 vr rs.length (cells2 rs bods)
  bl : bods.length = rs.length
  bd : ∀ i (h : i < rs.length) (h2 : i < bods.length), ∃ sb cb, bods[i] = .slice sb rs[i].body.length cb ∧ (0 < rs[i].body.length → Sl W 1 (.slice sb rs[i].body.length cb) rs[i].body.length (rs[i].body.map (.int .i64)) ∧ ∀ k, (Value.slice sb rs[i].body.length cb).ownBlock = some k → vr.ownBlock ≠ some k ∧ (k ≠ Bo ∧ k + 1 ≠ Bo) ∧ k < W.heap.size)
  chg : Chg [Bo] W0 W
variable {tL tR : TypeId} {W0 W W' : World} {Bo : Nat} {F : Int} {va : Value} {rs : List Rl} {bods : List Value} {vr : Value}
theorem TurnM.size (h : TurnM tL tR W0 W Bo F va rs bods vr) : W0.heap.size ≤ W.heap.size := h.chg.size
theorem TurnM.below (h : TurnM tL tR W0 W Bo F va rs bods vr) (hb : Below W.heap.size W W') : TurnM tL tR W0 W' Bo F va rs bods vr :=
  ⟨h.lt, h.ob.below hb h.ob.lt, own_below h.own hb, h.bl, fun i h1 h2 => by
    obtain ⟨sb, cb, e, hs⟩ := h.bd i h1 h2
    exact ⟨sb, cb, e, fun h0 => ⟨(hs h0).1.below hb, fun k hk => ⟨((hs h0).2 k hk).1, ((hs h0).2 k hk).2.1, Nat.lt_of_lt_of_le ((hs h0).2 k hk).2.2 hb.size⟩⟩⟩, h.chg.trans (Chg.of_below hb)⟩
theorem TurnM.low (h : TurnM tL tR W0 W Bo F va rs bods vr) {W1 : World} (hb : Below W1.heap.size W1 W0) (h1 : W1.heap.size ≤ Bo) : Below W1.heap.size W1 W :=
  hb.trans (h.chg.below hb.size (by simp; omega))
theorem TurnM.push (h : TurnM tL tR W0 W Bo F va rs bods vr) (r : Rl) {g cap : Nat} {sb : Option Addr} {cb : Nat} (hg : W.grownBy W' vr.ownBlock)
    (ho : W'.ownsRow W0.heap.size tR 2 (.slice (some ⟨g, 0, none⟩) (rs.length + 1) cap) (rs.length + 1) (cells2 rs bods ++ [.int .i64 r.head, .slice sb r.body.length cb])) (hat : vr.ownBlock = some g ∨ g = W.heap.size)
    (hb : 0 < r.body.length → Sl W 1 (.slice sb r.body.length cb) r.body.length (r.body.map (.int .i64)) ∧ ∀ k, (Value.slice sb r.body.length cb).ownBlock = some k → vr.ownBlock ≠ some k ∧ (k ≠ Bo ∧ k + 1 ≠ Bo) ∧ k < W.heap.size) :
    TurnM tL tR W0 (W'.setCell ⟨Bo, 2, none⟩ (.slice (some ⟨g, 0, none⟩) (rs.length + 1) cap)) Bo F va (rs ++ [r]) (bods ++ [.slice sb r.body.length cb]) (.slice (some ⟨g, 0, none⟩) (rs.length + 1) cap) := by
  have hP : ∀ k, vr.ownBlock = some k → Bo < k := fun k hk => by have := (own_lt h.own hk).1; have := h.lt; omega
  have hgP : Bo < g := by
    rcases hat with hat | hat
    · exact hP g hat
    · have := h.lt; have := h.size; omega
  have hsz := hg.size
  have step : ∀ (n : Nat) (v : Value) (l : List Value), (Sl W 1 v n l ∧ ∀ k, v.ownBlock = some k → vr.ownBlock ≠ some k ∧ (k ≠ Bo ∧ k + 1 ≠ Bo) ∧ k < W.heap.size) →
      (Sl (W'.setCell ⟨Bo, 2, none⟩ (.slice (some ⟨g, 0, none⟩) (rs.length + 1) cap)) 1 v n l ∧ ∀ k, v.ownBlock = some k → (Value.slice (some ⟨g, 0, none⟩) (rs.length + 1) cap).ownBlock ≠ some k ∧ (k ≠ Bo ∧ k + 1 ≠ Bo) ∧ k < (W'.setCell ⟨Bo, 2, none⟩ (.slice (some ⟨g, 0, none⟩) (rs.length + 1) cap)).heap.size) := fun n v l ⟨h1, h2⟩ => by
    refine ⟨(h1.far hg fun k hk => (h2 k hk).1).set_ne _ fun k hk => (h2 k hk).2.1.1, fun k hk => ⟨fun e => ?_, (h2 k hk).2.1, by have := (h2 k hk).2.2; simp; omega⟩⟩
    have e1 : some g = some k := e
    injection e1 with e1
    subst e1
    rcases hat with hat | hat
    · exact (h2 _ hk).1 hat
    · have := (h2 _ hk).2.2; omega
  refine ⟨h.lt, ?_, ?_, by simp [h.bl], fun i h1 h2 => ?_, (h.chg.grown hg fun k hk => (own_lt h.own hk).1).set _ (by simp)⟩
  · have h1 := (h.ob.grown hg (fun e => by have := hP Bo e.symm; omega)).set 2 (.slice (some ⟨g, 0, none⟩) (rs.length + 1) cap)
    simpa using h1
  · rw [cells2_snoc _ _ h.bl, List.length_append]
    exact own_set ho fun k hk => by
      have e1 : some g = some k := hk
      injection e1 with e1
      subst e1
      simp; omega
  · by_cases hi : i < rs.length
    · obtain ⟨sb', cb', e, hs⟩ := h.bd i hi (by rw [h.bl]; exact hi)
      rw [List.getElem_append_left (by rw [h.bl]; exact hi)]
      simp only [List.getElem_append_left hi]
      exact ⟨sb', cb', e, fun h0 => step _ _ _ (hs h0)⟩
    · have hi2 : i = rs.length := by rw [List.length_append] at h1; simp at h1; omega
      subst hi2
      have e1 : (bods ++ [Value.slice sb r.body.length cb])[rs.length] = .slice sb r.body.length cb := by
        rw [List.getElem_append_right (by rw [h.bl]; omega)]; simp [h.bl]
      have e2 : (rs ++ [r])[rs.length] = r := by rw [List.getElem_append_right (by omega)]; simp
      rw [e1]
      simp only [e2]
      exact ⟨sb, cb, rfl, fun h0 => step _ _ _ (hb h0)⟩
/-- at the end they are a base -/
theorem TurnM.base (h : TurnM tL tR W0 W Bo F va rs bods vr) {K : Nat} (hK : K + 1 = Bo) (ho : Oth K W W') {sa : Option Addr} {ca : Nat} {assume : List Int} (ha : Sz W' (.slice sa assume.length ca) assume.length (assume.map (.int .i64))) {sr : Option Addr} {cr : Nat} (hv : vr = .slice sr rs.length cr) :
    LgAt W' ⟨F, assume, rs⟩ sa sr ca cr bods := by
  subst hv
  refine ⟨ha, fun _ => (Sl.of_owns h.own).oth ho fun k hk => ?_, h.bl, fun i h1 h2 => ?_⟩
  · have h1 := (own_lt h.own hk).1
    have h2 := h.lt
    omega
  · obtain ⟨sb, cb, e, hs⟩ := h.bd i h1 h2
    exact ⟨sb, cb, e, fun h0 => (hs h0).1.oth ho fun k hk => by have := ((hs h0).2 k hk).2.1.2; omega⟩
end Go.Label
