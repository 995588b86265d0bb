/- The same walk, for a region whose order is forced: each operation in some world that grew out of the first one. -/
import Derived.Test.YtbmnbdkbgpajeaaGreatDoorFR03
import Derived.MapKept
import Derived.Maps.Own
import Derived.Lib.SlKeysI
import Derived.Laws.MakeOwn
import Derived.WideMake
import Derived.Carry
/- The same walk, for a region whose order is forced: each operation in some world that grew out of the first one. -/
section
namespace Go.Own
open Go.RowKit
theorem Yields.mono {P : Program} {o : Oper} {ρ : Operand → Value} {w : World} {R R' : Value → World → Prop} (h : Yields P o ρ w R) (hR : ∀ v w', R v w' → R' v w') : Yields P o ρ w R' := by
  unfold Yields at *
  cases hr : (execOp ρ o).run P w with
  | halt x w1 => rw [hr] at h; exact h.elim
  | ok nx w1 =>
    rw [hr] at h
    cases nx <;> first | exact h.elim | skip
    case value u => exact hR _ _ h
    case skip => exact hR _ _ h
    case enter f args =>
      refine Calls.mono h ?_
      rintro e w'' ⟨v, he, hv⟩
      exact ⟨v, he, hR _ _ hv⟩
    case row r args => exact Rows.mono h hR
section
variable {P : Program} {l : List Oper} {n N : Nat} {ps : List Nat} {Ext : World → World → Prop} {w0 : World} {Post : Nat → Value → World → Prop}

theorem wpList_of_yields {ops : Array Oper} {Q : Exit → Act → World → Prop} {o : Oper} {rest : List Oper} {a : Act} {w : World} (hw : Region.wanted o (yielded ops a.tmps) = true)
    (h : Yields P o a.eval w (fun v w' => wpList P ops Q rest (a.put o.dst v) w')) : wpList P ops Q (o :: rest) a w := by
  unfold wpList
  rw [if_pos hw]
  exact .inl (wp_of_yields h fun v w' hv => hv)
theorem wpList_skip {ops : Array Oper} {Q : Exit → Act → World → Prop} {o : Oper} {rest : List Oper} {a : Act} {w : World} (hw : Region.wanted o (yielded ops a.tmps) = false)
    (h : wpList P ops Q rest (a.put o.dst undef) w) : wpList P ops Q (o :: rest) a w := by
  unfold wpList
  rw [if_neg (by rw [hw]; exact Bool.false_ne_true)]
  exact h

theorem wpList_of_sqw (F : SqF l n N) (hrefl : ∀ w, Ext w w) (htrans : ∀ a b c, Ext a b → Ext b c → Ext a c) (stable : ∀ i v w w', Post i v w → Ext w w' → Post i v w') {a0 : Act} (hN : a0.tmps.size = N) {Q : Exit → Act → World → Prop} (hn : n ≤ l.length)
    (h0 : SqW P l ps Ext w0 Post (fun a' => ∀ w', Ext w0 w' → (∀ j d, j < n → ps.contains j = true → (l[j]?).bind (·.dst) = some d → (∀ o', l[j]? = some o' → Region.wanted o' (yielded l.toArray a'.tmps) = true) → Post j (a'.tmps.getD d undef) w') →
      wpList P l.toArray Q (l.drop n) a' w') 0 (l.take n) a0) :
    ∀ m k, k + m = n → ∀ (u : Nat → Value) (w : World), Ext w0 w → (∀ j, j < k → Cons1 P l ps Ext w0 Post j (putAll l a0 u j) (u j)) →
      (∀ j, j < k → ps.contains j = true → (∀ o, l[j]? = some o → Region.wanted o (yielded l.toArray (putAll l a0 u j).tmps) = true) → Post j (u j) w) → wpList P l.toArray Q ((l.take n).drop k ++ l.drop n) (putAll l a0 u k) w := by
  intro m
  induction m with
  | zero =>
    intro k hk u w hext hc hpost
    obtain rfl : k = n := by omega
    have hw := sqw_along hrefl (u := u) h0 hn k (Nat.le_refl _) hc
    have hnil : (l.take k).drop k = [] := List.drop_of_length_le (by simp; omega)
    rw [hnil] at hw ⊢
    unfold SqW at hw
    rw [List.nil_append]
    refine hw w hext fun j d hj hp hd hwj => ?_
    obtain ⟨oj, hoj, hdj⟩ := Option.bind_eq_some_iff.1 hd
    rw [slot_at F hN u (Nat.le_refl _) hj hoj hdj]
    refine hpost j hj hp fun o' ho' => ?_
    rw [← hwj o' ho']
    refine wanted_same (by rw [putAll_size, putAll_size]) ?_
    exact agree_walk F hN (u := u) (u' := u) hj (Nat.le_refl _) (Nat.le_of_lt hj) (Nat.le_of_lt hj) (Nat.le_refl _) ho' fun _ _ => rfl
  | succ m ih =>
    intro k hk u w hext hc hpost
    have hwalk := sqw_along hrefl (u := u) h0 hn k (by omega) hc
    have hlt : k < (l.take n).length := by simp; omega
    have hlt2 : k < l.length := by omega
    have ho : l[k]? = some l[k] := by simp [hlt2]
    have he : (l.take n)[k] = l[k] := by simp
    rw [List.drop_eq_getElem_cons hlt, he] at hwalk ⊢
    rw [List.cons_append]
    have go : ∀ x w2, Ext w w2 → Cons1 P l ps Ext w0 Post k (putAll l a0 u k) x → (ps.contains k = true → Region.wanted l[k] (yielded l.toArray (putAll l a0 u k).tmps) = true → Post k x w2) →
        wpList P l.toArray Q ((l.take n).drop (k + 1) ++ l.drop n) ((putAll l a0 u k).put l[k].dst x) w2 := fun x w2 hext2 hcx hpx => by
      let u' : Nat → Value := fun j => if j = k then x else u j
      have hu' : ∀ j, j ≠ k → u' j = u j := fun j hj => by simp [u', hj]
      have hux : u' k = x := by simp [u']
      have hA : ∀ j, j ≤ k → putAll l a0 u' j = putAll l a0 u j := fun j hj => putAll_congr l a0 j fun i hi => hu' i (by omega)
      have hgo := ih (k + 1) (by omega) u' w2 (htrans _ _ _ hext hext2) (fun j hj => ?_) (fun j hj hp hw => ?_)
      · rw [putAll, hA k (Nat.le_refl _), hux] at hgo
        simpa only [ho, Option.bind_some] using hgo
      · rw [hA j (by omega)]
        rcases Nat.lt_or_ge j k with h | h
        · rw [hu' j (by omega)]; exact hc j h
        · obtain rfl : j = k := by omega
          rw [hux]; exact hcx
      · rw [hA j (by omega)] at hw
        rcases Nat.lt_or_ge j k with h | h
        · rw [hu' j (by omega)]; exact stable _ _ _ _ (hpost j h hp hw) hext2
        · obtain rfl : j = k := by omega
          rw [hux]; exact hpx hp (hw _ ho)
    unfold SqW at hwalk
    by_cases hw : Region.wanted l[k] (yielded l.toArray (putAll l a0 u k).tmps) = true
    · rw [if_pos hw] at hwalk
      by_cases hp : ps.contains k = true
      · rw [if_pos hp] at hwalk
        refine wpList_of_yields hw ?_
        have hy := hwalk.1 w hext fun j d hj hpj hd hwj => by
          obtain ⟨oj, hoj, hdj⟩ := Option.bind_eq_some_iff.1 hd
          have hjk := ancB_lt hj
          rw [slot_at F hN u (by omega) hjk hoj hdj]
          refine hpost j hjk hpj fun o' ho' => ?_
          rw [← hwj o' ho']
          refine wanted_same (by rw [putAll_size, putAll_size]) ?_
          exact agree_walk F hN (u := u) (u' := u) (show j < n by omega) (Nat.le_refl _) (by omega) (Nat.le_of_lt hjk) (by omega) ho' fun _ _ => rfl
        refine hy.mono fun v w' ⟨hv, hev⟩ => go v w' hev (fun o' ho'' => ?_) fun _ _ => hv
        obtain rfl : o' = l[k] := Option.some.inj (ho''.symm.trans ho)
        exact ⟨fun _ => ⟨fun _ => ⟨w', hv⟩, fun h => by rw [hp] at h; cases h⟩, fun h => by rw [hw] at h; cases h⟩
      · rw [if_neg hp] at hwalk
        obtain ⟨v, hv, _⟩ := hwalk
        refine wpList_of_yields hw (yields_value (hv w hext) (go v w (hrefl _) (fun o' ho'' => ?_) fun h => absurd h hp))
        obtain rfl : o' = l[k] := Option.some.inj (ho''.symm.trans ho)
        exact ⟨fun _ => ⟨fun h => absurd h hp, fun _ => hv⟩, fun h => by rw [hw] at h; cases h⟩
    · refine wpList_skip (by simpa using hw) (go undef w (hrefl _) (fun o' ho'' => ?_) fun _ h => absurd h hw)
      obtain rfl : o' = l[k] := Option.some.inj (ho''.symm.trans ho)
      exact ⟨fun h => absurd h hw, fun _ => rfl⟩

/-- The closed facts, where the order is forced. -/
def spB (l : List Oper) (n N : Nat) : Bool := Region.noSelect l.toArray && edgesB l.toArray && dsts2B l n N && looksB l n && decide (n ≤ l.length)

/-- A region whose order is forced. -/
theorem wp_region_spB {id : Nat} {Q : Exit → Act → World → Prop} {a : Act} {w : World} (n : Nat) (ps : List Nat) (Post : Nat → Value → World → Prop) (hB : spB l n a.tmps.size = true)
    (stable : ∀ i v w w', Post i v w → ExtB w w' → Post i v w')
    (h : SqW P l ps ExtB w Post (fun a' => ∀ w', ExtB w w' → FactsEnd l ps Post n a' w' → wpList P l.toArray Q (l.drop n) a' w') 0 (l.take n) a) : (Code.region id l.toArray false).wp P Q a w := by
  simp only [spB, Bool.and_eq_true, decide_eq_true_eq] at hB
  obtain ⟨⟨⟨⟨hsel, he⟩, hd⟩, hl⟩, hn⟩ := hB
  refine wp_region_lit ?_
  have := wpList_of_sqw (Q := Q) (sqF_of hsel he hd hl) ExtB.refl ExtB.trans stable rfl hn h n 0 (by omega) (fun _ => undef) w (ExtB.refl _) (fun j hj => by omega) (fun j hj => by omega)
  rw [List.drop_zero, List.take_append_drop] at this
  exact this
end
end Go.Own
end
/- Maps with int keys, known entry by entry; worlds that differ in some blocks alone. Any program. -/
section
namespace Go.Own
open Go.RowKit Go.MapKept

/-- Outside the blocks of F what was there is there. -/
structure Chg (F : List Nat) (w w' : World) : Prop where
  os : w'.os = w.os
  tape : w'.tape = w.tape
  output : w'.output = w.output
  size : w.heap.size ≤ w'.heap.size
  block : ∀ k, k < w.heap.size → k ∉ F → w'.heap[k]? = w.heap[k]?
theorem Chg.refl (F : List Nat) (w : World) : Chg F w w := ⟨rfl, rfl, rfl, Nat.le_refl _, fun _ _ _ => rfl⟩
theorem Chg.trans {F : List Nat} {a b c : World} (h : Chg F a b) (k : Chg F b c) : Chg F a c :=
  ⟨k.os.trans h.os, k.tape.trans h.tape, k.output.trans h.output, Nat.le_trans h.size k.size, fun i hi hn => (k.block i (Nat.lt_of_lt_of_le hi h.size) hn).trans (h.block i hi hn)⟩
theorem Chg.mono {F F' : List Nat} {w w' : World} (h : Chg F w w') (hF : ∀ x ∈ F, x ∈ F') : Chg F' w w' := ⟨h.os, h.tape, h.output, h.size, fun k hk hn => h.block k hk fun hx => hn (hF k hx)⟩
theorem Chg.of_below {F : List Nat} {w w' : World} (h : Below w.heap.size w w') : Chg F w w' := ⟨h.os, h.tape, h.output, h.size, fun k hk _ => h.block k hk⟩
theorem Chg.below {F : List Nat} {B : Nat} {w w' : World} (h : Chg F w w') (hB : B ≤ w.heap.size) (hF : ∀ x ∈ F, B ≤ x) : Below B w w' :=
  ⟨h.os, h.tape, h.output, h.size, fun k hk => h.block k (Nat.lt_of_lt_of_le hk hB) fun hx => absurd (hF k hx) (Nat.not_le.2 hk)⟩
theorem Chg.of_oth {F : List Nat} {g : Nat} {w w' : World} (h : Oth g w w') (hg : g ∈ F) : Chg F w w' := ⟨h.os, h.tape, h.output, by rw [h.size]; exact Nat.le_refl _, fun k hk hn => h.block k fun e => hn (e ▸ hg)⟩
theorem Chg.drew {F : List Nat} {w w' : World} (h : Chg F w w') : Chg F w w'.drew := ⟨h.os, h.tape, h.output, h.size, h.block⟩
theorem Chg.drewN {F : List Nat} {w w' : World} (h : Chg F w w') (n : Nat) : Chg F w (w'.drewN n) := ⟨h.os, h.tape, h.output, h.size, h.block⟩
theorem Chg.alloc {F : List Nat} {w w' : World} (h : Chg F w w') (o : Obj) : Chg F w (w'.alloc o) :=
  h.trans (.of_below ((Below.refl _ _).alloc (Nat.le_refl _) _))
theorem Chg.set {F : List Nat} {w w' : World} (h : Chg F w w') {a : Addr} (v : Value) (ha : a.block ∈ F) : Chg F w (w'.setCell a v) :=
  h.trans ⟨by first | rfl | simp, by first | rfl | simp, by first | rfl | simp, by first | simp | exact Nat.le_refl _, fun k _ hn => heap_setCell_other w' a k v fun e => hn (by rw [e]; exact ha)⟩
theorem Blk.chg {F : List Nat} {w w' : World} {g : Nat} {l : List Value} {t : TypeId} (h : Blk w g l t) (hc : Chg F w w') (hg : g ∉ F) : Blk w' g l t := by
  unfold Blk; rw [hc.block g h.lt hg]; exact h
theorem Cells.chg {F : List Nat} {w w' : World} {g off : Nat} {vs : List Value} (h : Cells w g off vs) (hc : Chg F w w') (hlt : g < w.heap.size) (hg : g ∉ F) : Cells w' g off vs :=
  fun i v hi => (World.cell?_of_block (w := w) (hc.block g hlt hg)).trans (h i v hi)
theorem Sl.chg {F : List Nat} {w w' : World} {size n : Nat} {v : Value} {vs : List Value} (h : Sl w size v n vs) (hc : Chg F w w') (hg : ∀ b, v.ownBlock = some b → b ∉ F) : Sl w' size v n vs := by
  obtain ⟨h1, h2 | ⟨b, off, cap, rfl, h4, h5, h6, h7⟩⟩ := h
  · exact ⟨h1, .inl h2⟩
  · exact ⟨h1, .inr ⟨b, off, cap, rfl, h4, h5, h6.chg hc h7 (hg b rfl), Nat.lt_of_lt_of_le h7 hc.size⟩⟩

/-- Block b is a map with int keys; its entries, in the order in which they came, are m. -/
def IMap (w : World) (b : Nat) (m : List (Int × Value)) : Prop :=
  ∃ es clock, w.heap[b]? = some (.map es clock) ∧ Stamped es clock ∧ es.toList.map (fun e => (e.key, e.val)) = m.map fun p => (Value.int .i64 p.1, p.2)
def mget (m : List (Int × Value)) (k : Int) : Option Value := (m.find? fun p => p.1 == k).map (·.2)
def mset (m : List (Int × Value)) (k : Int) (v : Value) : List (Int × Value) := if m.any (fun p => p.1 == k) then m.map (fun p => if p.1 = k then (k, v) else p) else m ++ [(k, v)]
def mdel (m : List (Int × Value)) (k : Int) : List (Int × Value) := m.filter fun p => !(p.1 == k)
theorem IMap.lt {w : World} {b : Nat} {m : List (Int × Value)} (h : IMap w b m) : b < w.heap.size := by
  obtain ⟨es, clock, hb, _⟩ := h
  exact (Array.getElem?_eq_some_iff.1 hb).1
theorem IMap.same {w w' : World} {b : Nat} {m : List (Int × Value)} (h : IMap w b m) (hb : w'.heap[b]? = w.heap[b]?) : IMap w' b m := by
  obtain ⟨es, clock, h1, h2⟩ := h
  exact ⟨es, clock, hb.trans h1, h2⟩
theorem IMap.chg {F : List Nat} {w w' : World} {b : Nat} {m : List (Int × Value)} (h : IMap w b m) (hc : Chg F w w') (hb : b ∉ F) : IMap w' b m := h.same (hc.block b h.lt hb)
theorem IMap.below {w w' : World} {b : Nat} {m : List (Int × Value)} (h : IMap w b m) (hc : Below w.heap.size w w') : IMap w' b m := h.same (hc.block b h.lt)
theorem IMap.new (w : World) : IMap (w.alloc (.map #[] 0)) w.heap.size [] := ⟨#[], 0, (MapKept.heap_alloc w _).1, stamped_empty 0, rfl⟩
theorem IMap.nodup {w : World} {b : Nat} {m : List (Int × Value)} (h : IMap w b m) : (m.map (·.1)).Nodup := by
  obtain ⟨es, clock, _, ⟨_, _, h3⟩, h4⟩ := h
  have e : es.toList.map (·.key) = m.map fun p => Value.int .i64 p.1 := by
    have := congrArg (List.map Prod.fst) h4
    rw [List.map_map, List.map_map] at this
    exact this
  rw [e] at h3
  have : (m.map fun p => Value.int .i64 p.1) = (m.map (·.1)).map (Value.int .i64) := by rw [List.map_map]; rfl
  rw [this] at h3
  exact (List.pairwise_map.1 h3).imp fun hne e => hne (by rw [e])
theorem imap_keys {es : Array MapEntry} {m : List (Int × Value)} (h4 : es.toList.map (fun e => (e.key, e.val)) = m.map fun p => (Value.int .i64 p.1, p.2)) : ∀ x ∈ es.toList, IsKey (.int .i64) x.key := by
  intro x hx
  have h5 : (x.key, x.val) ∈ es.toList.map (fun e => (e.key, e.val)) := List.mem_map.2 ⟨x, hx, rfl⟩
  rw [h4] at h5
  obtain ⟨p, _, e⟩ := List.mem_map.1 h5
  injection e with e1 _
  rw [← e1]; rfl
/-- Where a key is found. -/
theorem findNow_imap (k : Int) : ∀ (l : List MapEntry) (m : List (Int × Value)) (i : Nat), l.map (fun e => (e.key, e.val)) = m.map (fun p => (Value.int .i64 p.1, p.2)) →
    Instr.findNow (.int .i64) (.int .i64 k) l i = some ((m.findIdx? fun p => p.1 == k).map fun j => (i + j, (m.getD j (0, undef)).2))
  | [], [], _, _ => rfl
  | [], _ :: _, _, h => by simp at h
  | _ :: _, [], _, h => by simp at h
  | e :: l, p :: m, i, h => by
    simp only [List.map_cons, List.cons.injEq, Prod.mk.injEq] at h
    obtain ⟨⟨h1, h2⟩, h3⟩ := h
    have ih := findNow_imap k l m (i + 1) h3
    unfold Instr.findNow
    rw [h1]
    have es : Instr.sameNow (.int .i64) (.int .i64 k) (.int .i64 p.1) = some (k == p.1) := by simp [Instr.sameNow]
    rw [es]
    by_cases hk : p.1 = k
    · have h0 : (k == p.1) = true := by simp [hk]
      rw [h0]
      simp [List.findIdx?_cons, hk, h2]
    · have h0 : (k == p.1) = false := by simp; omega
      rw [h0]
      simp only [ih]
      simp [List.findIdx?_cons, hk, Option.map_map]
      congr 1
      funext j
      simp; omega
section
variable {P : Program} {T K E : TypeId}
theorem findIdx_get (m : List (Int × Value)) (k : Int) : (m.findIdx? fun p => p.1 == k).map (fun j => (m.getD j (0, undef)).2) = mget m k := by
  induction m with
  | nil => rfl
  | cons p m ih =>
    unfold mget at ih ⊢
    by_cases hk : p.1 = k
    · simp [List.findIdx?_cons, hk]
    · simp [List.findIdx?_cons, hk, ← ih, Option.map_map, Function.comp_def]
theorem run_lookup_imap {w : World} {b : Nat} {m : List (Int × Value)} (hT : P.underlying T = some (.map K E)) (hK : P.underlying K = some (.int .i64)) (hm : IMap w b m) {z : Value} (hz : (zeroValue E).run P w = .ok z w) (k : Int) (ok : Bool) :
    (Instr.lookup T (.map (some b)) (.int .i64 k) ok).run P w = .ok (if ok then .tuple #[(mget m k).getD z, .bool (mget m k).isSome] else (mget m k).getD z) w := by
  obtain ⟨es, clock, hb, hs, h4⟩ := hm
  have hf := findNow_imap k es.toList m 0 h4
  have hkk : IsKey (.int .i64) (.int .i64 k) := rfl
  rw [← findIdx_get]
  cases hj : m.findIdx? fun p => p.1 == k with
  | none =>
    rw [hj] at hf
    simp only [Option.map_none] at hf
    cases ok <;> simp [Instr.lookup, run_underlying hT, Go.MapKept.run_getObj_map hb, run_checkKey hK hkk, run_findKey hK hf, Result.andThen, hz]
  | some j =>
    rw [hj] at hf
    simp only [Option.map_some] at hf
    cases ok <;> simp [Instr.lookup, run_underlying hT, Go.MapKept.run_getObj_map hb, run_checkKey hK hkk, run_findKey hK hf, Result.andThen]
end
end Go.Own
namespace Go.Own
open Go.RowKit Go.MapKept
theorem mset_at : ∀ (m : List (Int × Value)) (k : Int) (v : Value) (j : Nat), (m.map (·.1)).Nodup → (m.findIdx? fun p => p.1 == k) = some j → mset m k v = m.set j (k, v) ∧ mdel m k = m.eraseIdx j ∧ j < m.length ∧ (m.getD j (0, undef)).1 = k
  | [], _, _, _, _, h => by simp at h
  | p :: m, k, v, j, hn, h => by
    rw [List.map_cons, List.nodup_cons] at hn
    by_cases hk : p.1 = k
    · simp [List.findIdx?_cons, hk] at h
      subst h
      have hno : ∀ q ∈ m, q.1 ≠ k := fun q hq e => hn.1 (by rw [hk, ← e]; exact List.mem_map.2 ⟨q, hq, rfl⟩)
      refine ⟨?_, ?_, by simp, by simpa using hk⟩
      · unfold mset
        simp only [List.any_cons, hk, beq_self_eq_true, Bool.true_or, if_true, List.map_cons, List.set_cons_zero]
        congr 1
        refine (List.map_congr_left fun q hq => ?_).trans (List.map_id _)
        simp [hno q hq]
      · unfold mdel
        simp only [List.filter_cons, hk, beq_self_eq_true, Bool.not_true, Bool.false_eq_true, if_false, List.eraseIdx_cons_zero]
        refine List.filter_eq_self.2 fun q hq => ?_
        simpa using hno q hq
    · simp [List.findIdx?_cons, hk] at h
      obtain ⟨j', h', rfl⟩ := h
      obtain ⟨h1, h2, h3, h4⟩ := mset_at m k v j' hn.2 h'
      have hany : m.any (fun p => p.1 == k) = true := by
        have := List.findIdx?_isSome (xs := m) (p := fun p => p.1 == k)
        rw [h'] at this
        simpa using this.symm
      refine ⟨?_, ?_, by simp; omega, by simpa using h4⟩
      · unfold mset at h1 ⊢
        rw [hany] at h1
        simp only [if_true] at h1
        simp only [List.any_cons, hany, Bool.or_true, if_true, List.map_cons, hk, if_false, List.set_cons_succ, h1]
      · unfold mdel at h2 ⊢
        have hk' : (p.1 == k) = false := by simpa using hk
        simp only [List.filter_cons, hk', Bool.not_false, if_true, List.eraseIdx_cons_succ, h2]
theorem mset_none {m : List (Int × Value)} {k : Int} (v : Value) (h : (m.findIdx? fun p => p.1 == k) = none) : mset m k v = m ++ [(k, v)] ∧ mdel m k = m ∧ ∀ q ∈ m, q.1 ≠ k := by
  have hno : ∀ q ∈ m, q.1 ≠ k := fun q hq => by
    have := List.findIdx?_eq_none_iff.1 h q hq
    simpa using this
  have hany : m.any (fun p => p.1 == k) = false := by
    rw [List.any_eq_false]
    intro q hq
    simpa using hno q hq
  refine ⟨by unfold mset; rw [hany]; simp, List.filter_eq_self.2 fun q hq => by simpa using hno q hq, hno⟩
theorem map_eraseIdx' {α β : Type} (f : α → β) : ∀ (l : List α) (i : Nat), (l.eraseIdx i).map f = (l.map f).eraseIdx i
  | [], _ => rfl
  | _ :: _, 0 => rfl
  | a :: l, i + 1 => by simp [map_eraseIdx' f l i]
theorem chg_setObj {w : World} {b : Nat} {o o' : Obj} (hb : w.heap[b]? = some o) : Chg [b] w { w with heap := w.heap.setIfInBounds b o' } :=
  ⟨rfl, rfl, rfl, by simp, fun k _ hn => (heap_set hb).2 k (by simpa using hn)⟩
section
variable {P : Program} {T K E : TypeId}
theorem run_mapUpdate_imap {w : World} {b : Nat} {m : List (Int × Value)} (hT : P.underlying T = some (.map K E)) (hK : P.underlying K = some (.int .i64)) (hm : IMap w b m) (k : Int) (v : Value) :
    ∃ w', (Instr.mapUpdate T (.map (some b)) (.int .i64 k) v).run P w = .ok () w' ∧ IMap w' b (mset m k v) ∧ Chg [b] w w' ∧ w'.heap.size = w.heap.size := by
  have hnd := hm.nodup
  obtain ⟨es, clock, hb, hs, h4⟩ := hm
  have hf := findNow_imap k es.toList m 0 h4
  have hkk : IsKey (.int .i64) (.int .i64 k) := rfl
  cases hj : m.findIdx? fun p => p.1 == k with
  | none =>
    rw [hj] at hf
    simp only [Option.map_none] at hf
    obtain ⟨e1, _, hno⟩ := mset_none v hj
    refine ⟨{ w with heap := w.heap.setIfInBounds b (.map (es.push { key := .int .i64 k, val := v, born := clock }) (clock + 1)) }, ?_, ⟨_, _, (heap_set hb).1, stamped_push hs fun x hx e => ?_, ?_⟩, chg_setObj hb, by simp⟩
    · simp [Instr.mapUpdate, run_underlying hT, Go.MapKept.run_getObj_map hb, run_checkKey hK hkk, run_findKey hK hf, run_setObj_map _ hb, Result.andThen]
    · have h5 : (x.key, x.val) ∈ es.toList.map (fun e => (e.key, e.val)) := List.mem_map.2 ⟨x, hx, rfl⟩
      rw [h4] at h5
      obtain ⟨p, hp, e'⟩ := List.mem_map.1 h5
      injection e' with e2 _
      rw [e] at e2
      injection e2 with _ e3
      exact hno p hp e3
    · rw [e1]; simp [h4]
  | some j =>
    rw [hj] at hf
    simp only [Option.map_some, Nat.zero_add] at hf
    obtain ⟨e1, _, hjl, hjk⟩ := mset_at m k v j hnd hj
    have hlen : es.toList.length = m.length := by have := congrArg List.length h4; simpa using this
    have hje : j < es.size := by rw [← Array.length_toList, hlen]; exact hjl
    have hkey : (es[j]'hje).key = .int .i64 k := by
      have h5 : (es.toList.map (fun e => (e.key, e.val)))[j]? = (m.map fun p => (Value.int .i64 p.1, p.2))[j]? := by rw [h4]
      simp only [List.getElem?_map, List.getElem?_eq_getElem hjl, Array.getElem?_toList, Array.getElem?_eq_getElem hje, Option.map_some, Option.some.injEq, Prod.mk.injEq] at h5
      rw [h5.1]
      simp [hjl] at hjk
      rw [hjk]
    have hst : ((es[j]?).map (·.key)).getD (.int .i64 k) = .int .i64 k := by simp [hje, hkey]
    refine ⟨{ w with heap := w.heap.setIfInBounds b (.map (es.modify j fun e => { e with key := .int .i64 k, val := v }) clock) }, ?_, ⟨_, _, (heap_set hb).1, stamped_modify hs j _ (fun _ _ => rfl) fun e _ he => ?_, ?_⟩, chg_setObj hb, by simp⟩
    · simp [Instr.mapUpdate, run_underlying hT, Go.MapKept.run_getObj_map hb, run_checkKey hK hkk, run_findKey hK hf, run_setObj_map _ hb, Result.andThen, hje, hkey, run_keyThatStays hkk]
    · have : e = es[j]'hje := by simpa [hje] using he.symm
      rw [this, hkey]
    · rw [e1]
      apply List.ext_getElem?
      intro i
      have h5 : (es.toList.map (fun e => (e.key, e.val)))[i]? = (m.map fun p => (Value.int .i64 p.1, p.2))[i]? := by rw [h4]
      simp only [List.getElem?_map, Array.getElem?_toList, Array.getElem?_modify, List.getElem?_set] at h5 ⊢
      by_cases hij : j = i
      · subst hij
        simp [hje, hjl]
      · simp only [hij, if_false]
        exact h5
theorem run_delete_imap {w : World} {b : Nat} {m : List (Int × Value)} {ty : TypeId} (hT : P.underlying T = some (.map K E)) (hK : P.underlying K = some (.int .i64)) (hm : IMap w b m) (k : Int) :
    ∃ w', (Builtin.delete_ #[T, K] ty #[.map (some b), .int .i64 k]).run P w = .ok (.tuple #[]) w' ∧ IMap w' b (mdel m k) ∧ Chg [b] w w' ∧ w'.heap.size = w.heap.size := by
  have hnd := hm.nodup
  obtain ⟨es, clock, hb, hs, h4⟩ := hm
  have hf := findNow_imap k es.toList m 0 h4
  have hkk : IsKey (.int .i64) (.int .i64 k) := rfl
  cases hj : m.findIdx? fun p => p.1 == k with
  | none =>
    rw [hj] at hf
    simp only [Option.map_none] at hf
    obtain ⟨_, e1, _⟩ := mset_none undef hj
    refine ⟨{ w with heap := w.heap.setIfInBounds b (.map es clock) }, ?_, ⟨_, _, (heap_set hb).1, hs, by rw [e1]; exact h4⟩, chg_setObj hb, by simp⟩
    simp [Builtin.delete_, run_underlying hT, Go.MapKept.run_getObj_map hb, run_checkKey hK hkk, run_findKey hK hf, run_setObj_map _ hb, Result.andThen]
  | some j =>
    rw [hj] at hf
    simp only [Option.map_some, Nat.zero_add] at hf
    obtain ⟨_, e1, hjl, _⟩ := mset_at m k undef j hnd hj
    have hlen : es.toList.length = m.length := by have := congrArg List.length h4; simpa using this
    have hje : j < es.size := by rw [← Array.length_toList, hlen]; exact hjl
    refine ⟨{ w with heap := w.heap.setIfInBounds b (.map (es.eraseIdxIfInBounds j) clock) }, ?_, ⟨_, _, (heap_set hb).1, stamped_erase hs j, ?_⟩, chg_setObj hb, by simp⟩
    · simp [Builtin.delete_, run_underlying hT, Go.MapKept.run_getObj_map hb, run_checkKey hK hkk, run_findKey hK hf, run_setObj_map _ hb, Result.andThen]
    · rw [e1]
      unfold Array.eraseIdxIfInBounds
      rw [dif_pos hje, Array.toList_eraseIdx, map_eraseIdx', map_eraseIdx', h4]
end
end Go.Own
namespace Go.Own
open Go.RowKit Go.MapKept
theorem find_map_same : ∀ (m : List (Int × Value)) (k k' : Int) (v : Value), ((m.map fun p => if p.1 = k then (k, v) else p).find? fun p => p.1 == k') = (m.find? fun p => p.1 == k').map fun p => if p.1 = k then (k, v) else p
  | [], _, _, _ => rfl
  | p :: m, k, k', v => by
    simp only [List.map_cons, List.find?_cons, find_map_same m k k' v]
    by_cases h : p.1 = k
    · subst h
      simp only [if_true]
      by_cases h' : p.1 = k'
      · simp [h']
      · have : (p.1 == k') = false := by simpa using h'
        simp [this]
    · simp only [h, if_false]
      by_cases h' : p.1 = k'
      · have : (p.1 == k') = true := by simpa using h'
        simp [this, h]
      · have : (p.1 == k') = false := by simpa using h'
        simp [this]
theorem mget_mset (m : List (Int × Value)) (k k' : Int) (v : Value) : mget (mset m k v) k' = if k' = k then some v else mget m k' := by
  unfold mset mget
  by_cases ha : m.any (fun p => p.1 == k) = true
  · rw [if_pos ha, find_map_same]
    by_cases hk : k' = k
    · subst hk
      rw [if_pos rfl]
      cases hf : m.find? fun p => p.1 == k' with
      | none =>
        rw [List.find?_eq_none] at hf
        rw [List.any_eq_true] at ha
        obtain ⟨x, hx, h⟩ := ha
        exact absurd h (hf x hx)
      | some p =>
        have h := List.find?_some hf
        simp only [beq_iff_eq] at h
        simp [h]
    · rw [if_neg hk]
      cases hf : m.find? fun p => p.1 == k' with
      | none => rfl
      | some p =>
        have h := List.find?_some hf
        simp only [beq_iff_eq] at h
        simp only [Option.map_some]
        rw [if_neg (by omega)]
  · rw [if_neg ha, List.find?_append]
    have hno : ∀ q ∈ m, ¬ (q.1 == k) = true := by
      intro q hq h
      exact ha (List.any_eq_true.2 ⟨q, hq, h⟩)
    by_cases hk : k' = k
    · subst hk
      rw [if_pos rfl, List.find?_eq_none.2 hno]
      simp
    · rw [if_neg hk]
      have : (k == k') = false := by simp; omega
      simp [this]
theorem mget_mdel (m : List (Int × Value)) (k k' : Int) : mget (mdel m k) k' = if k' = k then none else mget m k' := by
  unfold mdel mget
  rw [List.find?_filter]
  by_cases hk : k' = k
  · subst hk
    rw [if_pos rfl, List.find?_eq_none.2]
    · rfl
    · intro x _; simp
  · rw [if_neg hk]
    congr 2
    funext p
    by_cases h : p.1 = k'
    · simp [h, hk]
    · have : (p.1 == k') = false := by simpa using h
      simp [this]
section
variable {P : Program}
theorem wpList_mapUpdate_imap {ops : Array Oper} {rest : List Oper} {o : Oper} {a : Act} {w : World} {Q : Exit → Act → World → Prop} {T K E : TypeId} {b : Nat} {m : List (Int × Value)} {k : Int} {v : Value} {x y z : Operand}
    (hm : IMap w b m) (hgd : o.guard = none) (ho : o.op = .mapUpdate T x y z) (hdst : o.dst = none) (hx : a.eval x = .map (some b)) (hy : a.eval y = .int .i64 k) (hz : a.eval z = v)
    (hT : P.underlying T = some (.map K E)) (hK : P.underlying K = some (.int .i64))
    (h : ∀ w', IMap w' b (mset m k v) → Chg [b] w w' → w'.heap.size = w.heap.size → wpList P ops Q rest a w') : wpList P ops Q (o :: rest) a w :=
  wpList_plain hgd fun _ hK' => by
    obtain ⟨w', hr, h1, h2, h3⟩ := run_mapUpdate_imap hT hK hm k v
    have := h _ h1 h2 h3
    unfold Oper.wp execOp
    simp only [ho, hx, hy, hz, Sem.run_bind, Sem.run_pure, Result.andThen_ok, hr]
    simp only [Oper.upon_skip, hdst, Act.put]
    exact hK' _ _ this
theorem wpList_delete_imap {ops : Array Oper} {rest : List Oper} {o : Oper} {a : Act} {w : World} {Q : Exit → Act → World → Prop} {T K E : TypeId} {b : Nat} {m : List (Int × Value)} {k : Int} {x y : Operand}
    (hm : IMap w b m) (hgd : o.guard = none) (ho : o.op = .call { callee := .builtin .delete, args := #[x, y], argTypes := #[T, K] }) (hdst : o.dst = none) (hx : a.eval x = .map (some b)) (hy : a.eval y = .int .i64 k)
    (hT : P.underlying T = some (.map K E)) (hK : P.underlying K = some (.int .i64))
    (h : ∀ w', IMap w' b (mdel m k) → Chg [b] w w' → w'.heap.size = w.heap.size → wpList P ops Q rest a w') : wpList P ops Q (o :: rest) a w :=
  wpList_plain hgd fun _ hK' => by
    obtain ⟨w', hr, h1, h2, h3⟩ := run_delete_imap (ty := o.type) hT hK hm k
    have : wpList P ops Q rest (a.put o.dst (.tuple #[])) w' := by rw [hdst]; exact h _ h1 h2 h3
    unfold Oper.wp
    simp [execOp, ho, resolve, invoke, builtin, hx, hy, hr, Result.andThen]
    exact hK' _ _ this
end
end Go.Own
end
/- Slices in new blocks: made, appended to. Any program. -/
section
namespace Go.Own
open Go.RowKit Go.MapKept
theorem sl_new (w : World) (c : Array Value) (t : TypeId) (n : Nat) (hn : c.size = n) (hm : n ≤ maxLen) : Sl (w.alloc (.cells c t)) 1 (.slice (some ⟨w.heap.size, 0, none⟩) n n) n c.toList :=
  ⟨by simp [hn], .inr ⟨_, 0, n, rfl, Nat.le_refl _, hm, (Blk.new w c t).cells0, by simp⟩⟩
theorem Sl.alloc {w : World} {size n : Nat} {v : Value} {vs : List Value} (h : Sl w size v n vs) (o : Obj) : Sl (w.alloc o) size v n vs := h.below ((Below.refl _ _).alloc (Nat.le_refl _) _)
theorem own_new (w : World) (c : Array Value) (t : TypeId) (n base : Nat) (hn : c.size = n) (hm : n ≤ maxLen) (hb : base ≤ w.heap.size) : (w.alloc (.cells c t)).ownsRow base t 1 (.slice (some ⟨w.heap.size, 0, none⟩) n n) n c.toList :=
  ⟨by simp [hn], .inr ⟨_, n, c, rfl, hb, heap_alloc_new _ _, Nat.le_refl _, hm, by simp [hn], List.take_of_length_le (by simp [hn])⟩⟩
theorem own_new_at (w : World) (c : Array Value) (t : TypeId) (n base g : Nat) (hg : g = w.heap.size) (hn : c.size = n) (hm : n ≤ maxLen) (hb : base ≤ w.heap.size) : (w.alloc (.cells c t)).ownsRow base t 1 (.slice (some ⟨g, 0, none⟩) n n) n c.toList := by
  subst hg; exact own_new w c t n base hn hm hb
theorem sl_new_at (w : World) (c : Array Value) (t : TypeId) (n g : Nat) (hg : g = w.heap.size) (hn : c.size = n) (hm : n ≤ maxLen) : Sl (w.alloc (.cells c t)) 1 (.slice (some ⟨g, 0, none⟩) n n) n c.toList := by
  subst hg; exact sl_new w c t n hn hm
/-- A slice value's length. -/
def sLen : Value → Nat | .slice _ n _ => n | _ => 0
theorem own_len {w : World} {base size n : Nat} {e : TypeId} {v : Value} {xs : List Value} (h : w.ownsRow base e size v n xs) : sLen v = n := by
  obtain ⟨_, ⟨rfl, rfl⟩ | ⟨g, cap, cur, rfl, _⟩⟩ := h <;> rfl
theorem own_slice {w : World} {base n size : Nat} {e : TypeId} {v : Value} {xs : List Value} (h : w.ownsRow base e size v n xs) : ∃ sa cap, v = .slice sa n cap ∧ ∀ b, v.ownBlock = some b → base ≤ b := by
  obtain ⟨h1, ⟨h2, h3⟩ | ⟨g, cap, cur, h2, h3, _⟩⟩ := h
  · exact ⟨none, 0, by rw [h2, h3], fun b hb => by rw [h2] at hb; cases hb⟩
  · exact ⟨_, _, h2, fun b hb => by
      rw [h2] at hb
      have : g = b := by simpa [Value.ownBlock] using hb
      omega⟩
theorem sl_slice {w : World} {n size : Nat} {v : Value} {xs : List Value} (h : Sl w size v n xs) : ∃ sa cap, v = .slice sa n cap ∧ n ≤ cap ∧ cap ≤ maxLen := by
  obtain ⟨_, ⟨rfl, rfl⟩ | ⟨b, off, cap, rfl, h1, h2, _⟩⟩ := h
  · exact ⟨none, 0, rfl, Nat.le_refl _, Nat.zero_le _⟩
  · exact ⟨_, cap, rfl, h1, h2⟩
/-- A row of the call's own that is not empty: its block whole, with what is spare. -/
theorem own_blk {w : World} {base n size : Nat} {e : TypeId} {v : Value} {xs : List Value} (h : w.ownsRow base e size v n xs) (hn : 0 < n) :
    ∃ g cap sp, v = .slice (some ⟨g, 0, none⟩) n cap ∧ base ≤ g ∧ n ≤ cap ∧ cap ≤ maxLen ∧ Blk w g (xs ++ sp) e := by
  obtain ⟨h1, ⟨h2, h3⟩ | ⟨g, cap, cur, h2, h3, h4, h5, h6, h7, h8⟩⟩ := h
  · omega
  · refine ⟨g, cap, cur.toList.drop (n * size), h2, h3, h5, h6, ?_⟩
    unfold Blk
    rw [h4, ← h8, List.take_append_drop]
theorem madeCells_rep (v : Value) (k n : Nat) (hk : 0 < k) : madeCells (List.replicate k v).toArray n = (List.replicate n v).toArray := by
  unfold madeCells
  apply Array.ext
  · simp
  · intro i h1 h2
    have : i % k < k := Nat.mod_lt _ hk
    simp [this]
theorem madeCells_one (v : Value) (n : Nat) : madeCells #[v] n = (List.replicate n v).toArray := madeCells_rep v 1 n (by decide)
theorem set_rep {α : Type} (l : List α) (z : α) {k n : Nat} (hk : k < n) (hl : l.length = n) : ((l.take k) ++ List.replicate (n - k) z).set k l[k] = l.take (k + 1) ++ List.replicate (n - (k + 1)) z := by
  apply List.ext_getElem?
  intro j
  have h1 : (l.take k).length = k := by simp; omega
  have h2 : (l.take (k + 1)).length = k + 1 := by simp; omega
  rw [List.getElem?_set]
  by_cases e : k = j
  · subst e
    rw [if_pos rfl, if_pos (by simp; omega), List.getElem?_append_left (by omega)]
    simp
  · rw [if_neg e]
    by_cases h : j < k
    · rw [List.getElem?_append_left (by omega), List.getElem?_append_left (by omega), List.getElem?_take_of_lt h, List.getElem?_take_of_lt (by omega)]
    · rw [List.getElem?_append_right (by omega), List.getElem?_append_right (by omega), h1, h2, List.getElem?_replicate, List.getElem?_replicate]
      by_cases h3 : j < n
      · rw [if_pos (by omega), if_pos (by omega)]
      · rw [if_neg (by omega), if_neg (by omega)]
/-- 'make([]T, n)', T of one cell. -/
theorem run_make_one {P : Program} {T e : TypeId} (z : Value) (by' : Nat) (hT : P.underlying T = some (.slice e)) (hi : (P.info? e).map (fun i => (i.zero, i.size, i.bytes)) = some (some z, 1, by')) (hz : z.cells = #[z]) (n : Nat) (hn : by' * n ≤ 140737488355328) (hn2 : n ≤ maxLen) (u : World) :
    (Instr.makeSlice T (.int .i64 n) (.int .i64 n)).run P u = .ok (.slice (some ⟨u.heap.size, 0, none⟩) n n) (u.alloc (.cells (Array.replicate n z) e)) := by
  obtain ⟨i, hi1, hi2, hi3, hi4⟩ := info_parts hi
  have h2 : ((by' : Int) * (n : Int)) ≤ 140737488355328 := by
    have h : ((by' * n : Nat) : Int) ≤ 140737488355328 := by omega
    rwa [Int.natCast_mul] at h
  have h3 : (n : Int) ≤ 9223372036854775807 := by unfold maxLen at hn2; omega
  have := run_make (P := P) u T e i z hT hi1 hi2 .i64 .i64 n n (by omega) (Int.le_refl _) (by rw [hi4]; omega) h3
  rw [this, hi3, hz]
  simp only [Int.toNat_natCast, Nat.mul_one]
  rw [madeCells_one, List.toArray_replicate]
theorem blk_make (w : World) (n : Nat) (z : Value) (e : TypeId) : Blk (w.alloc (.cells (Array.replicate n z) e)) w.heap.size (List.replicate n z) e := by
  have := Blk.new w (Array.replicate n z) e
  rwa [Array.toList_replicate] at this
theorem alloc_below (w : World) (o : Obj) : Below w.heap.size w (w.alloc o) := (Below.refl _ _).alloc (Nat.le_refl _) _
theorem alloc_size (w : World) (o : Obj) : (w.alloc o).heap.size = w.heap.size + 1 := World.size_alloc _ _
/-- A cell of a block above B is set: below B nothing turns. -/
theorem below_set {B g : Nat} {W w : World} (h : Below B W w) (hB : B ≤ W.heap.size) (hg : B ≤ g) (i : Nat) (v : Value) : Below B W (w.setCell ⟨g, i, none⟩ v) :=
  h.trans (((Chg.refl [g] w).set (a := ⟨g, i, none⟩) v (by simp)).below (Nat.le_trans hB h.size) (by simpa using hg))
theorem eqlIn_slice_nil {P : Program} (w : World) (d : Nat) (t e : TypeId) (a : Option Addr) (l c : Nat) (h : P.underlying t = some (.slice e)) : (Op.equalIn (d + 1) t (.slice a l c) (.slice none 0 0)).run P w = .ok a.isNone w := by
  cases a <;> simp [Op.equalIn, run_underlying h]
theorem eql_slice_nil {P : Program} (w : World) (t e : TypeId) (a : Option Addr) (l c : Nat) (h : P.underlying t = some (.slice e)) : (binOp .eql t (.slice a l c) (.slice none 0 0)).run P w = .ok (.bool a.isNone) w := by
  simp only [binOp]
  simp [show Op.equal t (.slice a l c) (.slice none 0 0) = Op.equalIn (9999 + 1) t (.slice a l c) (.slice none 0 0) from rfl, eqlIn_slice_nil w 9999 t e a l c h]
section
variable {P : Program}
/-- A struct or an array is loaded whole. -/
theorem wpList_load_agg {ops : Array Oper} {rest : List Oper} {o : Oper} {a : Act} {w : World} {Q : Exit → Act → World → Prop} {g off : Nat} (vs : List Value) {ty : TypeId} {x : Operand}
    (hC : Cells w g off vs) (hgd : o.guard = none) (ho : o.op = .load ty x) (hx : a.eval x = .pointer (some ⟨g, off, none⟩))
    (hd : (match P.underlying ty with | some (.struct _) | some (.array _ _) => true | _ => false) = true) (hi : (P.info? ty).map (·.size) = some vs.length)
    (h : wpList P ops Q rest (a.put o.dst (.agg vs.toArray)) w) : wpList P ops Q (o :: rest) a w := by
  cases hu : P.underlying ty with
  | none => rw [hu] at hd; cases hd
  | some d => exact wpList_load_cells (d := d) hC hgd ho hx hu (by rw [hu] at hd; cases d <;> simp_all) hi rfl h
theorem run_load_agg {w : World} {g off : Nat} {vs : List Value} {ty : TypeId} (hC : Cells w g off vs) (hd : (match P.underlying ty with | some (.struct _) | some (.array _ _) => true | _ => false) = true) (hi : (P.info? ty).map (·.size) = some vs.length) :
    (loadVar ty ⟨g, off, none⟩).run P w = .ok (.agg vs.toArray) w := by
  cases hu : P.underlying ty with
  | none => rw [hu] at hd; cases hd
  | some d => exact run_loadVar_cells (d := d) hC hu (by rw [hu] at hd; cases d <;> simp_all) hi rfl
end
theorem Chg.pre_drew {F : List Nat} {w w' : World} (h : Chg F w.drew w') : Chg F w w' := ((Chg.refl F w).drew).trans h
theorem load_agg_exec {P : Program} {o : Oper} {ρ : Operand → Value} {x : Operand} {ty : TypeId} {p : Addr} {v : Value} {w : World} (ho : o.op = .load ty x) (hx : ρ x = .pointer (some p)) (h : (loadVar ty p).run P w = .ok v w) : (execOp ρ o).run P w = .ok (.value v) w := by
  unfold execOp
  simp only [ho, hx, Instr.loadAt, Instr.sureAddr, Sem.run_bind, Sem.run_pure, Result.andThen_ok, h]
theorem own_below {w w' : World} {base size n : Nat} {e : TypeId} {v : Value} {xs : List Value} (h : w.ownsRow base e size v n xs) (hb : Below w.heap.size w w') : w'.ownsRow base e size v n xs := by
  refine ⟨h.1, ?_⟩
  rcases h.2 with hn | ⟨g, cap, cur, rfl, hg, hgg, rest⟩
  · exact .inl hn
  · exact .inr ⟨g, cap, cur, rfl, hg, by rw [hb.block g (Array.getElem?_eq_some_iff.1 hgg).1]; exact hgg, rest⟩
theorem own_chg {F : List Nat} {w w' : World} {base size n : Nat} {e : TypeId} {v : Value} {xs : List Value} (h : w.ownsRow base e size v n xs) (hb : Chg F w w') (hF : ∀ b, v.ownBlock = some b → b ∉ F) : w'.ownsRow base e size v n xs := by
  refine ⟨h.1, ?_⟩
  rcases h.2 with hn | ⟨g, cap, cur, rfl, hg, hgg, rest⟩
  · exact .inl hn
  · exact .inr ⟨g, cap, cur, rfl, hg, by rw [hb.block g (Array.getElem?_eq_some_iff.1 hgg).1 (hF g rfl)]; exact hgg, rest⟩
theorem own_weaken {w : World} {base base' size n : Nat} {e : TypeId} {v : Value} {xs : List Value} (h : w.ownsRow base e size v n xs) (hb : base' ≤ base) : w.ownsRow base' e size v n xs := by
  refine ⟨h.1, ?_⟩
  rcases h.2 with hn | ⟨g, cap, cur, rfl, hg, rest⟩
  · exact .inl hn
  · exact .inr ⟨g, cap, cur, rfl, Nat.le_trans hb hg, rest⟩
end Go.Own
end
