/- order: an append to a row of one's own keeps rows that agree with it; the law OrderMore. -/
import Derived.Test.YtnkinjilnccmfaaN3
import Derived.Test.YtnkinjilnccmfaaG0
import Derived.Test.YtnkinjilnccmfaaL5
import Derived.Deep.DeepAppendRoom
import Derived.Laws.AppendOwnNone
namespace Go.Own
open Go.RowKit
/-- 'append(s, x...)', s a row of one's own: what is below stays, and rows that agree with what is written. -/
theorem run_append_rows {P : Program} (w : World) (base : Nat) (t ty e : TypeId) (i : TypeInfo) (z : Value) (size bytes : Nat) (ht : P.underlying t = some (.slice e)) (hi : P.info? e = some i) (hz : i.zero = some z)
    (hsize : i.size = size) (hby : i.bytes = bytes) (hzs : z.cells.size = size) (hsz : 0 < size)
    (v : Value) (n : Nat) (xs : List Value) (hown : w.ownsRow base e size v n xs) (hv : v ≠ .slice none 0 0)
    (a : Addr) (m c : Nat) (news : List Value) (hl : news.length = m * size) (hnews : ∀ j u, news[j]? = some u → w.cell? (a.add j) = some u) (h1 : ∀ u ∈ news, u.oneCell' = true)
    (h63 : n + m ≤ maxLen) (hbytes : (n + m) * bytes ≤ 140737488355328) (hbase : base ≤ w.heap.size) :
    ∃ v' w', (Builtin.append_ #[t, t] ty #[v, .slice (some a) m c]).run P w = .ok v' w' ∧ w'.ownsRow base e size v' (n + m) (xs ++ news) ∧ Below base w w' ∧
      (∀ e2 size2 v2 k Y, w.ownsRow base e2 size2 v2 k Y → (e2 = e → ∀ sa cap, v = .slice sa n cap → n + m ≤ cap → ∀ j u, n * size ≤ j → j < (n + m) * size → Y[j]? = some u → news[j - n * size]? = some u) → w'.ownsRow base e2 size2 v2 k Y) := by
  obtain ⟨v', w', hr, h2, h3, _⟩ := run_append_own w base t ty e i z size bytes ht hi hz hsize hby hzs hsz v n xs hown a m c news hl hnews h1 h63 hbytes hbase
  have hlow : Below base w w' := grown_below (Below.refl base w) hown h3 hbase
  refine ⟨v', w', hr, h2, hlow, fun e2 size2 v2 k Y hY hag => ?_⟩
  rcases hown.2 with ⟨rfl, rfl⟩ | ⟨g, cap, cur, rfl, hbg, hg, hnc, hcm, hcs, htake⟩
  · exact absurd rfl hv
  · by_cases hroom : n + m ≤ cap
    · subst hsize
      have hfit : n * i.size + news.length ≤ cur.size := by rw [hl, hcs, ← Nat.add_mul]; exact Nat.mul_le_mul_right _ hroom
      have hr2 := run_append_room (P := P) w t ty e i ht hi g n cap cur hg a m c news hl hnews h1 hroom hfit
      rw [hr] at hr2
      injection hr2 with e1 e2'
      subst e2'
      rcases hY.2 with hn | ⟨g2, cap2, cur2, rfl, hb2, hg2, hk2, hm2, hs2, ht2⟩
      · exact ⟨hY.1, .inl hn⟩
      · by_cases hgg : g2 = g
        · subst hgg
          rw [hg] at hg2
          injection hg2 with hg2
          injection hg2 with c1 c2 c3
          subst c1 c2
          refine ⟨hY.1, .inr ⟨g2, cap2, _, rfl, hb2, setRow_heap w g2 cur _ e _ hg, hk2, hm2, ?_, ?_⟩⟩
          · rw [← hs2]
            simp only [List.size_toArray, List.length_append, List.length_take, List.length_drop, Array.length_toList]
            omega
          · have hYl := hY.1
            rw [List.toList_toArray]
            apply List.ext_getElem?
            intro j
            by_cases hj : j < k * size2
            · rw [List.getElem?_take_of_lt hj]
              have hcj : cur.toList[j]? = Y[j]? := by rw [← ht2, List.getElem?_take_of_lt hj]
              have hjc : j < cur.toList.length := by
                rw [Array.length_toList, hs2]
                exact Nat.lt_of_lt_of_le hj (Nat.mul_le_mul_right _ hk2)
              have htl : (cur.toList.take (n * i.size)).length = n * i.size := by
                rw [List.length_take, Array.length_toList]; omega
              by_cases h5 : j < n * i.size
              · rw [List.append_assoc, List.getElem?_append_left (by rw [htl]; exact h5), List.getElem?_take_of_lt h5, hcj]
              · by_cases h6 : j < (n + m) * i.size
                · have h7 : j - n * i.size < news.length := by rw [hl]; rw [Nat.add_mul] at h6; omega
                  rw [List.append_assoc, List.getElem?_append_right (by rw [htl]; omega), htl, List.getElem?_append_left h7]
                  have hYj : j < Y.length := by rw [hYl]; exact hj
                  have h8 := hag rfl _ cap rfl hroom j Y[j] (by omega) h6 (List.getElem?_eq_getElem hYj)
                  rw [h8, List.getElem?_eq_getElem hYj]
                · rw [Nat.add_mul] at h6
                  rw [List.getElem?_append_right (by rw [List.length_append, htl, hl]; omega), List.length_append, htl, List.getElem?_drop, hl, ← hcj]
                  congr 1
                  omega
            · rw [List.getElem?_eq_none (by rw [List.length_take]; omega), List.getElem?_eq_none (by rw [hYl]; omega)]
        · refine ⟨hY.1, .inr ⟨g2, cap2, cur2, rfl, hb2, ?_, hk2, hm2, hs2, ht2⟩⟩
          rw [setRow_other w g g2 _ hgg]; exact hg2
    · have hb : Below w.heap.size w w' := by
        subst hsize
        subst hby
        have hsmall : n + m ≤ 9223372036854775807 := by simp only [maxLen] at h63; omega
        have holds : ∀ j u, xs[j]? = some u → w.cell? ((⟨g, 0, none⟩ : Addr).add j) = some u := hown.cells (g := g) rfl
        have hr2 := run_append_grow (P := P) w t ty e i z ht hi hz ⟨g, 0, none⟩ n cap xs hown.1 holds a m c news hl hnews (by omega) (by omega) (growslice_fits (by omega) hbytes)
        rw [hr] at hr2
        injection hr2 with e1 e2'
        subst e2'
        exact ((Below.refl w.heap.size w).drew).alloc (Nat.le_refl _) _
      exact own_below hY hb
theorem own_newS (w : World) (c : Array Value) (t : TypeId) (n size base : Nat) (hn : c.size = n * size) (hm : n ≤ maxLen) (hb : base ≤ w.heap.size) : (w.alloc (.cells c t)).ownsRow base t size (.slice (some ⟨w.heap.size, 0, none⟩) n n) n c.toList :=
  ⟨by rw [Array.length_toList]; exact hn, .inr ⟨w.heap.size, n, c, rfl, hb, heap_alloc_new _ _, Nat.le_refl _, hm, hn, List.take_of_length_le (by rw [Array.length_toList, hn]; exact Nat.le_refl _)⟩⟩
/-- 'append(s, x...)' with no element: s, as it was. -/
theorem wpList_append_zero {P : Program} {w : World} {ops : Array Oper} {rest : List Oper} {o : Oper} {a : Act} {Q : Exit → Act → World → Prop} (hgd : o.guard = none) (s x : Operand) (t : TypeId)
    (ho : o.op = .call { callee := .builtin .append, args := #[s, x], argTypes := #[t, t] })
    (base : Nat) (e : TypeId) (i : TypeInfo) (size : Nat) (ht : P.underlying t = some (.slice e)) (hi : P.info? e = some i)
    (v : Value) (n : Nat) (xs : List Value) (hs : a.eval s = v) (hown : w.ownsRow base e size v n xs) (sx : Option Addr) (cx : Nat) (hx : a.eval x = .slice sx 0 cx)
    (h : wpList P ops Q rest (a.put o.dst v) w) : wpList P ops Q (o :: rest) a w :=
  wpList_plain hgd fun _ hK => by
    have hl : ∀ (y : Addr), (loadCells y 0).run P w = .ok #[] w := fun y => by simpa using run_loadCells_list (P := P) w y [] (by simp)
    have hf : (Builtin.firstCells i.size 0 (.slice sx 0 cx)).run P w = .ok #[] w := by
      cases sx with
      | none => rfl
      | some y => simp only [Builtin.firstCells, Nat.zero_mul]; exact hl y
    have hr : (Builtin.append_ #[t, t] o.type #[v, .slice sx 0 cx]).run P w = .ok v w := by
      rcases hown.2 with ⟨rfl, rfl⟩ | ⟨g, cap, cur, rfl, _, _, hnc, _⟩
      · simp [Builtin.append_, run_underlying ht, sizeOf, typeInfo, hi, Builtin.lenOf, hf, Sem.run_bind]
      · simp [Builtin.append_, run_underlying ht, sizeOf, typeInfo, hi, Builtin.lenOf, hf, hnc, Sem.run_bind, storeCells]
    unfold Oper.wp execOp
    simp only [ho, resolve, invoke, builtin, Sem.run_bind, Sem.run_pure, Result.andThen_ok, List.map_toArray, List.map_cons, List.map_nil, hs, hx, hr]
    exact hK _ _ h
/-- 'append(s, x...)', s the call's own, x any slice of numbers, which reads if it is not empty. -/
theorem wpList_append_sz {P : Program} {w : World} {ops : Array Oper} {rest : List Oper} {o : Oper} {a : Act} {Q : Exit → Act → World → Prop} (hgd : o.guard = none) (s x : Operand) (t : TypeId)
    (ho : o.op = .call { callee := .builtin .append, args := #[s, x], argTypes := #[t, t] })
    (base : Nat) (e : TypeId) (z : Value) (bytes : Nat) (ht : P.underlying t = some (.slice e)) (hi : (P.info? e).map (fun i => (i.zero, i.size, i.bytes)) = some (some z, 1, bytes))
    (hzs : z.cells.size = 1)
    (v : Value) (n : Nat) (xs : List Value) (hs : a.eval s = v) (hown : w.ownsRow base e 1 v n xs)
    (sx : Option Addr) (m cx : Nat) (news : List Value) (hx : a.eval x = .slice sx m cx) (hsl : 0 < m → Sl w 1 (.slice sx m cx) m news) (hnl : news.length = m) (h1 : ∀ u ∈ news, u.oneCell' = true)
    (h63 : n + m ≤ maxLen) (hbytes : (n + m) * bytes ≤ 140737488355328) (hbase : base ≤ w.heap.size)
    (h : ∀ v' w', w'.ownsRow base e 1 v' (n + m) (xs ++ news) → w.grownBy w' v.ownBlock → wpList P ops Q rest (a.put o.dst v') w') : wpList P ops Q (o :: rest) a w := by
  rcases Nat.eq_zero_or_pos m with h0 | h0
  · subst h0
    have hn : news = [] := List.eq_nil_of_length_eq_zero hnl
    subst hn
    obtain ⟨i, hi1, hi2, hi3, hi4⟩ := info_parts hi
    exact wpList_append_zero hgd s x t ho base e i 1 ht hi1 v n xs hs hown sx cx hx (h v w (by simpa using hown) (World.grownBy.refl _ _))
  · exact wpList_append_sl hgd s x t ho base e z 1 bytes ht hi hzs (by decide) v n xs hs hown _ m news hx (hsl h0) h1 h63 hbytes hbase h
/-- rows of these kinds stay, and what is below -/
structure ExtR (base : Nat) (good : TypeId → Nat → Nat → List Value → Prop) (W W' : World) : Prop where
  low : Below base W W'
  rows : ∀ e size v k Y, good e size k Y → W.ownsRow base e size v k Y → W'.ownsRow base e size v k Y
theorem ExtR.refl (base : Nat) (good : TypeId → Nat → Nat → List Value → Prop) (W : World) : ExtR base good W W := ⟨Below.refl _ _, fun _ _ _ _ _ _ h => h⟩
theorem ExtR.trans (base : Nat) (good : TypeId → Nat → Nat → List Value → Prop) (a b c : World) (h : ExtR base good a b) (k : ExtR base good b c) : ExtR base good a c := ⟨h.low.trans k.low, fun e s v n Y g r => k.rows e s v n Y g (h.rows e s v n Y g r)⟩
theorem ExtR.of {base : Nat} {good : TypeId → Nat → Nat → List Value → Prop} {a b : World} (h : Below a.heap.size a b) (hb : base ≤ a.heap.size) : ExtR base good a b := ⟨h.mono hb, fun e s v n Y _ r => own_below r h⟩
/-- 'append' in a region that draws its order -/
theorem yields_append {P : Program} {o : Oper} {ρ : Operand → Value} {W : World} {R : Value → World → Prop} {good : TypeId → Nat → Nat → List Value → Prop} (s x : Operand) (t : TypeId)
    (ho : o.op = .call { callee := .builtin .append, args := #[s, x], argTypes := #[t, t] })
    (base : Nat) (e : TypeId) (z : Value) (size bytes : Nat) (ht : P.underlying t = some (.slice e)) (hi : (P.info? e).map (fun i => (i.zero, i.size, i.bytes)) = some (some z, size, bytes))
    (hzs : z.cells.size = size) (hsz : 0 < size)
    (v : Value) (n : Nat) (xs : List Value) (hs : ρ s = v) (hown : W.ownsRow base e size v n xs) (hv : v ≠ .slice none 0 0)
    (sx : Option Addr) (m cx : Nat) (news : List Value) (hx : ρ x = .slice sx m cx) (hsl : 0 < m → Sl W size (.slice sx m cx) m news) (hl : news.length = m * size) (h1 : ∀ u ∈ news, u.oneCell' = true)
    (h63 : n + m ≤ maxLen) (hbytes : (n + m) * bytes ≤ 140737488355328) (hbase : base ≤ W.heap.size)
    (hag : ∀ sa cap, v = .slice sa n cap → n + m ≤ cap → 0 < m → ∀ size2 k Y, good e size2 k Y → ∀ j u, n * size ≤ j → j < (n + m) * size → Y[j]? = some u → news[j - n * size]? = some u)
    (h : ∀ v' W', W'.ownsRow base e size v' (n + m) (xs ++ news) → v' ≠ .slice none 0 0 → ExtR base good W W' → R v' W') : Yields P o ρ W R := by
  obtain ⟨i, hi1, hi2, hi3, hi4⟩ := info_parts hi
  have hex : ∀ v' W', (Builtin.append_ #[t, t] o.type #[v, .slice sx m cx]).run P W = .ok v' W' → (execOp ρ o).run P W = .ok (.value v') W' := fun v' W' hr => by
    unfold execOp
    simp only [ho, resolve, invoke, builtin, Sem.run_bind, Sem.run_pure, Result.andThen_ok, List.map_toArray, List.map_cons, List.map_nil, hs, hx, hr]
  rcases Nat.eq_zero_or_pos m with h0 | h0
  · subst h0
    have hn : news = [] := List.eq_nil_of_length_eq_zero (by rw [hl, Nat.zero_mul])
    subst hn
    have hl0 : ∀ (y : Addr), (loadCells y 0).run P W = .ok #[] W := fun y => by simpa using run_loadCells_list (P := P) W y [] (by simp)
    have hf : (Builtin.firstCells i.size 0 (.slice sx 0 cx)).run P W = .ok #[] W := by
      cases sx with
      | none => rfl
      | some y => simp only [Builtin.firstCells, Nat.zero_mul]; exact hl0 y
    have hr : (Builtin.append_ #[t, t] o.type #[v, .slice sx 0 cx]).run P W = .ok v W := by
      rcases hown.2 with ⟨rfl, rfl⟩ | ⟨g, cap, cur, rfl, _, _, hnc, _⟩
      · simp [Builtin.append_, run_underlying ht, sizeOf, typeInfo, hi1, Builtin.lenOf, hf, Sem.run_bind]
      · simp [Builtin.append_, run_underlying ht, sizeOf, typeInfo, hi1, Builtin.lenOf, hf, hnc, Sem.run_bind, storeCells]
    exact yields_value (hex _ _ hr) (h v W (by simpa using hown) hv (ExtR.refl _ _ _))
  · obtain ⟨hl', ⟨h2, h3⟩ | ⟨b, off, cap, h2, hc1, hc2, hC, hlt⟩⟩ := hsl h0
    · omega
    · injection h2 with h2 _ h2'
      subst h2 h2'
      obtain ⟨v', W', hr, k1, k2, k3⟩ := run_append_rows W base t o.type e i z size bytes ht hi1 hi2 hi3 hi4 hzs hsz v n xs hown hv ⟨b, off, none⟩ m cx news hl (fun j u hj => by rw [Addr.add_lit]; exact hC j u hj) h1 h63 hbytes hbase
      exact yields_value (hex _ _ hr) (h v' W' k1 (fun hn => by
        rcases k1.2 with ⟨_, h9⟩ | ⟨g9, cap9, cur9, h9, _⟩
        · omega
        · rw [hn] at h9; injection h9 with h9; cases h9) ⟨k2, fun e2 s2 v2 k Y hg hY => k3 e2 s2 v2 k Y hY fun he sa cap h5 h6 => by subst he; exact hag sa cap h5 h6 h0 s2 k Y hg⟩)
end Go.Own
namespace Go.Order
open Go.RowKit Go.Own Go.Proofs.Ytnkinjilnccmfaa Go.Theory
/-- the rows that the arguments are made of -/
def goodM (F X : List Value) (n : Nat) (G : List Value) (m : Nat) (y : Value) (e : TypeId) (size k : Nat) (Y : List Value) : Prop :=
  (e = 58 ∧ size = 10 ∧ (k = 0 ∧ Y = [] ∨ k = 1 ∧ Y = X ∨ k = n ∧ Y = F ∨ k = n + 1 ∧ Y = F ++ X)) ∨ (e = 22 ∧ size = 1 ∧ (k = 0 ∧ Y = [] ∨ k = 1 ∧ Y = [y] ∨ k = m ∧ Y = G ∨ k = m + 1 ∧ Y = G ++ [y]))
theorem good_spl {F X : List Value} {n : Nat} {G : List Value} {m : Nat} {y : Value} (hF : F.length = n * 10) (hX : X.length = 10) {size2 k : Nat} {Y : List Value} (h : goodM F X n G m y 58 size2 k Y) :
    ∀ j u, n * 10 ≤ j → j < (n + 1) * 10 → Y[j]? = some u → X[j - n * 10]? = some u := by
  intro j u h1 h2 h3
  rcases h with ⟨_, _, h⟩ | ⟨h, _⟩
  · rcases h with ⟨_, rfl⟩ | ⟨_, rfl⟩ | ⟨_, rfl⟩ | ⟨_, rfl⟩
    · simp at h3
    · have h4 := (List.getElem?_eq_some_iff.1 h3).1
      have h5 : n = 0 := by omega
      subst h5
      simpa using h3
    · have h4 := (List.getElem?_eq_some_iff.1 h3).1
      omega
    · rw [List.getElem?_append_right (by omega), hF] at h3
      exact h3
  · exact absurd h (by decide)
theorem good_set {F X : List Value} {n : Nat} {G : List Value} {m : Nat} {y : Value} (hG : G.length = m) {size2 k : Nat} {Y : List Value} (h : goodM F X n G m y 22 size2 k Y) :
    ∀ j u, m * 1 ≤ j → j < (m + 1) * 1 → Y[j]? = some u → [y][j - m * 1]? = some u := by
  intro j u h1 h2 h3
  rcases h with ⟨h, _⟩ | ⟨_, _, h⟩
  · exact absurd h (by decide)
  · have hj : j = m := by omega
    subst hj
    rcases h with ⟨_, rfl⟩ | ⟨_, rfl⟩ | ⟨_, rfl⟩ | ⟨_, rfl⟩
    · simp at h3
    · have h4 := (List.getElem?_eq_some_iff.1 h3).1
      simp at h4
      subst h4
      simpa using h3
    · have h4 := (List.getElem?_eq_some_iff.1 h3).1
      omega
    · rw [List.getElem?_append_right (by omega), hG] at h3
      simpa using h3
/-- what the three calls of Find return -/
theorem more_vals {whole also : Int} {may : List Spl} {st : List Int} {x : Spl} (h : errV whole (may ++ [x]) (st ++ [also]) = 0) (hl : may.length ≤ 60) (hs : st.length ≤ 60) :
    ∃ m : Nat, whole = m ∧ ∃ T1 n C e T2 n2 C2 e2 T3, findV (m : Int) may st = ⟨T1, n, C, e⟩ ∧ findV (m : Int) (x :: may) (st ++ [also]) = ⟨T2, n2, C2, e2⟩ ∧ findV (m : Int) may.reverse st.reverse = ⟨T3, n, C, e⟩ ∧ (e = 0 → e2 = 0 ∧ n2 ≤ n) ∧ C.length < 1000000 := by
  obtain ⟨_, _, hwb, hstb, hmok⟩ := errV_ok h
  obtain ⟨m, rfl, hm1, hm2⟩ := isB_nat hwb
  rw [List.all_append, Bool.and_eq_true] at hstb hmok
  obtain ⟨s1, s2⟩ := hstb
  obtain ⟨o1, o2⟩ := hmok
  have o3 : x.ok = true := by simpa using o2
  have o4 : (x :: may).all Spl.ok = true := by rw [List.all_cons, o3, o1]; rfl
  have o5 : may.reverse.all Spl.ok = true := by rw [List.all_reverse]; exact o1
  have s5 : st.reverse.all isB = true := by rw [List.all_reverse]; exact s1
  have E1 : errV (m : Int) may st = 0 := errV_zero (by omega) (by omega) hwb s1 o1
  have E2 : errV (m : Int) (x :: may) (st ++ [also]) = 0 := errV_zero (by rw [List.length_cons]; omega) (by rw [List.length_append, List.length_singleton]; omega) hwb (by rw [List.all_append, s1, s2]; rfl) o4
  have E3 : errV (m : Int) may.reverse st.reverse = 0 := errV_zero (by rw [List.length_reverse]; omega) (by rw [List.length_reverse]; omega) hwb s5 o5
  have hm : ∀ z, z ∈ may ↔ z ∈ may.reverse := fun z => List.mem_reverse.symm
  have hs' : ∀ z, z ∈ st ↔ z ∈ st.reverse := fun z => List.mem_reverse.symm
  have hsame := bb_same o1 o5 hm hs' hm2
  have hcan := canL_same o1 o5 hm hs'
  have hlen := canL_len may st
  refine ⟨m, rfl, ?_⟩
  by_cases hb : 0 ≤ (bb may st m).2
  · have hb2 := bb_more (st' := st ++ [also]) o1 o4 (fun z hz => List.mem_cons_of_mem _ hz) (fun z hz => List.mem_append_left _ hz) m hm2 hb
    have v1 := findV_yes E1 (by rw [Int.toNat_natCast]; exact hb)
    have v2 := findV_yes E2 (by rw [Int.toNat_natCast]; exact hb2.1)
    have v3 := findV_yes E3 (by rw [Int.toNat_natCast, hsame]; exact hb)
    rw [Int.toNat_natCast] at v1 v2 v3
    rw [hsame] at v3
    exact ⟨_, _, _, _, _, _, _, _, _, v1, v2, v3, fun _ => ⟨rfl, hb2.2⟩, by decide⟩
  · have v1 := findV_no E1 (by rw [Int.toNat_natCast]; exact hb)
    have v3 := findV_no E3 (by rw [Int.toNat_natCast, hsame]; exact hb)
    rw [hcan] at v3
    exact ⟨_, _, _, _, _, _, _, _, _, v1, rfl, v3, fun h => absurd h (by decide), by omega⟩
end Go.Order
namespace Go.Own.SqS
open Go.RowKit Go.Own
theorem sqw_skip {P : Program} {l : List Oper} {ps : List Nat} {Ext : World → World → Prop} {w0 : World} {Post : Nat → Act → Value → World → Prop} {Fin : Act → Prop} {k : Nat} {o : Oper} {r : List Oper} {a : Act}
    (hw : Region.wanted o (yielded l.toArray a.tmps) = false) (h : SqW P l ps Ext w0 Post Fin (k + 1) r (a.put o.dst undef)) : SqW P l ps Ext w0 Post Fin k (o :: r) a := by
  unfold SqW
  rw [if_neg (by rw [hw]; exact Bool.false_ne_true)]; exact h
end Go.Own.SqS
namespace Go.Proofs.Ytnkinjilnccmfaa
open Go.RowKit Go.Own Go.BigFrame Go.Big Go.Order
attribute [local irreducible] SqS.SqW
theorem infoSpl' : (Try.prog.info? 58).map (fun i => (i.zero, i.size, i.bytes)) = some (some (.agg #[.int .i64 0, .int .i64 0, .bool false, .slice none 0 0, .bool false, .slice none 0 0, .bool false, .slice none 0 0, .bool false, .slice none 0 0]), 10, 144) := infoSpl
set_option maxRecDepth 100000 in
set_option maxHeartbeats 12800000 in
theorem orderMore_any (whole also : Int) (may : List Spl) (x : Spl) (st : List Int) (s t : Option Addr) (ca cb : Nat) (w : World) (hl : Lst w (.slice s may.length ca) may) (hm : Sz w (.slice t st.length cb) st.length (intsI st)) (hx : x.At w) (hn : may.length < 4611686018427387904) :
    Calls Try.prog 8 #[.int .i64 whole, .slice s may.length ca, .slice t st.length cb, x.v, .int .i64 also] w fun e w' => e = .returned (.bool true) ∧ Below w.heap.size w w' := by
  have hp1 := fun (U : World) (hU : Below w.heap.size w U) => plain_any may s ca U (hl.below hU) hn
  have hp2 := fun (U : World) (sx : Option Addr) (cx : Nat) (hU : Below w.heap.size w U) (h : Sl U 10 (.slice sx 1 cx) 1 (flat [x])) => plain_any [x] sx cx U ⟨h, fun z hz => by rw [List.mem_singleton] at hz; subst hz; exact hx.below hU⟩ (by rw [List.length_singleton]; decide)
  have her := fun (U : World) (sx sy : Option Addr) (cx cy : Nat) (hU : Below w.heap.size w U) (h : Sl U 10 (.slice sx (may ++ [x]).length cx) (may ++ [x]).length (flat (may ++ [x]))) (h2 : Sz U (.slice sy (st ++ [also]).length cy) (st ++ [also]).length (intsI (st ++ [also]))) =>
    rerror_any whole (may ++ [x]) (st ++ [also]) sx sy cx cy U ⟨h, fun z hz => by
      rcases List.mem_append.1 hz with hz | hz
      · exact (hl.at' z hz).below hU
      · rw [List.mem_singleton] at hz; subst hz; exact hx.below hU⟩ h2
  have hmore : (may ++ [x]).length = may.length + 1 := by rw [List.length_append]; rfl
  have hmore2 : (st ++ [also]).length = st.length + 1 := by rw [List.length_append]; rfl
  have hfx : flat [x] = x.cells := by unfold flat; simp
  have hia : intsI (st ++ [also]) = intsI st ++ [.int .i64 also] := by unfold intsI; rw [List.map_append]; rfl
  rw [hmore, hmore2, hia, flat_app, hfx] at her
  rw [hfx] at hp2
  have hF := flat_len may
  have hX : x.cells.length = 10 := rfl
  have hG := intsI_len st
  have hFo := flat_one may
  have hXo := cells_one x
  have hGo : ∀ u ∈ intsI st, u.oneCell' = true := by intro u hu; unfold intsI at hu; rw [List.mem_map] at hu; obtain ⟨x, _, rfl⟩ := hu; rfl
  obtain ⟨F, hFd⟩ : ∃ F, F = flat may := ⟨_, rfl⟩
  obtain ⟨G, hGd⟩ : ∃ G, G = intsI st := ⟨_, rfl⟩
  obtain ⟨E, hE⟩ : ∃ E, E = errV whole (may ++ [x]) (st ++ [also]) := ⟨_, rfl⟩
  rw [← hFd] at her hF hFo
  rw [← hGd] at her hG hGo
  rw [← hE] at her
  have hsF := fun (U : World) (hU : Below w.heap.size w U) => (hl.below hU).sl
  have hsG := fun (U : World) (hU : Below w.heap.size w U) => hm.below hU
  rw [← hFd] at hsF
  rw [← hGd] at hsG
  obtain ⟨nl, hnl⟩ : ∃ nl, nl = may.length := ⟨_, rfl⟩
  obtain ⟨ns, hns⟩ : ∃ ns, ns = st.length := ⟨_, rfl⟩
  rw [← hnl] at hp1 her hF hsF ⊢
  rw [← hns] at her hG hsG ⊢
  have HP1 := Lib.hid hp1; clear hp1
  have HP2 := Lib.hid hp2; clear hp2
  have HER := Lib.hid her; clear her
  have HE := Lib.hid hE; clear hE
  have HNL := Lib.hid hnl; clear hnl
  have HNS := Lib.hid hns; clear hns
  have HFD := Lib.hid hFd; clear hFd
  have HGD := Lib.hid hGd; clear hGd
  have HL := Lib.hid hl; clear hl
  have HM := Lib.hid hm; clear hm
  have HXA := Lib.hid hx; clear hx
  have HF := Lib.hid hF; clear hF
  have HG := Lib.hid hG; clear hG
  have HFO := Lib.hid hFo; clear hFo
  have HGO := Lib.hid hGo; clear hGo
  have HSF := Lib.hid hsF; clear hsF
  have HSG := Lib.hid hsG; clear hsG
  clear hmore hmore2 hfx hia hX hn
  obtain ⟨x0, hx0⟩ : ∃ x0, x0 = x := ⟨_, rfl⟩
  rw [← hx0] at HE HXA
  have HX0 := Lib.hid hx0; clear hx0
  obtain ⟨xw, xp, ⟨na, da, sa, ya⟩, ⟨nb, db, sb, yb⟩, ⟨nc, dc, sc, yc⟩, ⟨nd, dd, sd, yd⟩⟩ := x
  obtain ⟨X, hXd⟩ : ∃ X : List Value, X = [.int .i64 xw, .int .i64 xp, .bool na, .slice sa da.length ya, .bool nb, .slice sb db.length yb, .bool nc, .slice sc dc.length yc, .bool nd, .slice sd dd.length yd] := ⟨_, rfl⟩
  have hXl : X.length = 10 := by rw [hXd]; rfl
  have HP2' : Hid (∀ (U : World) (sx : Option Addr) (cx : Nat), Below w.heap.size w U → Sl U 10 (.slice sx 1 cx) 1 X → Calls Try.prog 10 #[.slice sx 1 cx] U fun e w' => ∃ b, e = .returned (.bool b) ∧ Below U.heap.size U w') := Lib.hid fun U sx cx h1 h2 => HP2.out U sx cx h1 (by rw [hXd] at h2; exact h2)
  have HER' : Hid (∀ (U : World) (sx sy : Option Addr) (cx cy : Nat), Below w.heap.size w U → Sl U 10 (.slice sx (nl + 1) cx) (nl + 1) (F ++ X) → Sz U (.slice sy (ns + 1) cy) (ns + 1) (G ++ [.int .i64 also]) → Calls Try.prog 22 #[.int .i64 whole, .slice sx (nl + 1) cx, .slice sy (ns + 1) cy] U fun e w' => e = .returned (.int .i64 E) ∧ Below U.heap.size U w') := Lib.hid fun U sx sy cx cy h1 h2 h3 => HER.out U sx sy cx cy h1 (by rw [hXd] at h2; exact h2) h3
  have hXo2 : ∀ u ∈ X, u.oneCell' = true := by rw [hXd]; exact hXo
  have HXO := Lib.hid hXo2
  have HXL := Lib.hid hXl
  have HXD := Lib.hid hXd
  clear HP2 HER hXo hXo2 hXl
  obtain ⟨W1, hW1⟩ : ∃ W1, W1 = w.alloc (.cells #[.int .i64 xw, .int .i64 xp, .bool na, .slice sa da.length ya, .bool nb, .slice sb db.length yb, .bool nc, .slice sc dc.length yc, .bool nd, .slice sd dd.length yd] 58) := ⟨_, rfl⟩
  have bW1 : Below w.heap.size w W1 := by rw [hW1]; exact alloc_below _ _
  have kW1 : Blk W1 w.heap.size X 58 := by rw [hW1, hXd]; exact Blk.new w #[.int .i64 xw, .int .i64 xp, .bool na, .slice sa da.length ya, .bool nb, .slice sb db.length yb, .bool nc, .slice sc dc.length yc, .bool nd, .slice sd dd.length yd] 58
  clear hXd
  obtain ⟨base, hbase⟩ : ∃ base, base = W1.heap.size := ⟨_, rfl⟩
  have hxu : ∀ U, ExtR base (goodM F X nl G ns (.int .i64 also)) W1.drew U → Below w.heap.size w U := fun U hU => by
    have h9 : Below W1.heap.size W1 U := by have := hU.low; rw [hbase] at this; exact (Below.refl _ _).drew.trans this
    exact bW1.trans (h9.mono bW1.size)
  have hxb : ∀ U, ExtR base (goodM F X nl G ns (.int .i64 also)) W1.drew U → base ≤ U.heap.size := fun U hU => by have := hU.low.size; rw [hbase]; exact this
  have hxc : ∀ U, ExtR base (goodM F X nl G ns (.int .i64 also)) W1.drew U → Cells U w.heap.size 0 X := fun U hU => by
    have h9 : Below W1.heap.size W1 U := by have := hU.low; rw [hbase] at this; exact (Below.refl _ _).drew.trans this
    exact (kW1.below h9 kW1.lt).cells0
  have HXU := Lib.hid hxu; clear hxu
  have HXB := Lib.hid hxb; clear hxb
  have HXC := Lib.hid hxc; clear hxc kW1
  have hinf : (Try.prog.info? 58).map (·.size) = some X.length := by rw [HXL.out]; exact infoS
  have HINF := Lib.hid hinf; clear hinf
  have HW1 := Lib.hid hW1; clear hW1
  have HB1 := Lib.hid bW1; clear bW1
  have HBASE := Lib.hid hbase; clear hbase
  show Calls Try.prog 8 #[.int .i64 whole, .slice s nl ca, .slice t ns cb, .agg #[.int .i64 xw, .int .i64 xp, .bool na, .slice sa da.length ya, .bool nb, .slice sb db.length yb, .bool nc, .slice sc dc.length yc, .bool nd, .slice sd dd.length yd], .int .i64 also] w fun e w' => e = .returned (.bool true) ∧ Below w.heap.size w w'
  by_cases h1 : nl ≤ 60
  case neg =>
    have g1 : (60 < (nl : Int)) = True := eq_true (by omega)
    clear h1
    go_enter Try.func8, Try.ntmps8
    go_wp2
    rw [← HW1.out]
    refine SqS.wp_region_sqs 36 [10, 15, 16, 21, 23, 25, 26, 27, 29, 31, 32, 33] (ExtR base (goodM F X nl G ns (.int .i64 also))) (fun i a v W => match i with
      | 10 => ∃ b : Bool, v = .bool b
      | 15 => W.ownsRow base 58 10 v 1 X
      | 16 => ∃ b : Bool, v = .bool b
      | 21 => (∃ g, v = .slice (some ⟨g, 0, none⟩) 0 0) ∧ W.ownsRow base 58 10 v 0 []
      | 23 => v ≠ .slice none 0 0 ∧ W.ownsRow base 58 10 v nl F
      | 25 => W.ownsRow base 58 10 v 1 X
      | 26 => W.ownsRow base 58 10 v (nl + 1) (F ++ X)
      | 27 => (∃ g, v = .slice (some ⟨g, 0, none⟩) 0 0) ∧ W.ownsRow base 22 1 v 0 []
      | 29 => v ≠ .slice none 0 0 ∧ W.ownsRow base 22 1 v ns G
      | 31 => W.ownsRow base 22 1 v 1 [.int .i64 also]
      | 32 => W.ownsRow base 22 1 v (ns + 1) (G ++ [.int .i64 also])
      | 33 => v = .int .i64 E
      | _ => True) (by kernel_rfl) (by kernel_rfl) (fun i o a a' v W ho h hp => hp) (ExtR.refl _ _) (ExtR.trans _ _) ?st1 ?mn1
    case st1 =>
      intro i a v W W' h hb
      match i, h with
      | 0, h => exact h
      | 1, h => exact h
      | 2, h => exact h
      | 3, h => exact h
      | 4, h => exact h
      | 5, h => exact h
      | 6, h => exact h
      | 7, h => exact h
      | 8, h => exact h
      | 9, h => exact h
      | 10, h => exact h
      | 11, h => exact h
      | 12, h => exact h
      | 13, h => exact h
      | 14, h => exact h
      | 15, h => exact hb.rows _ _ _ _ _ (.inl ⟨rfl, rfl, .inr (.inl ⟨rfl, rfl⟩)⟩) h
      | 16, h => exact h
      | 17, h => exact h
      | 18, h => exact h
      | 19, h => exact h
      | 20, h => exact h
      | 21, h => exact ⟨h.1, hb.rows _ _ _ _ _ (.inl ⟨rfl, rfl, .inl ⟨rfl, rfl⟩⟩) h.2⟩
      | 22, h => exact h
      | 23, h => exact ⟨h.1, hb.rows _ _ _ _ _ (.inl ⟨rfl, rfl, .inr (.inr (.inl ⟨rfl, rfl⟩))⟩) h.2⟩
      | 24, h => exact h
      | 25, h => exact hb.rows _ _ _ _ _ (.inl ⟨rfl, rfl, .inr (.inl ⟨rfl, rfl⟩)⟩) h
      | 26, h => exact hb.rows _ _ _ _ _ (.inl ⟨rfl, rfl, .inr (.inr (.inr ⟨rfl, rfl⟩))⟩) h
      | 27, h => exact ⟨h.1, hb.rows _ _ _ _ _ (.inr ⟨rfl, rfl, .inl ⟨rfl, rfl⟩⟩) h.2⟩
      | 28, h => exact h
      | 29, h => exact ⟨h.1, hb.rows _ _ _ _ _ (.inr ⟨rfl, rfl, .inr (.inr (.inl ⟨rfl, rfl⟩))⟩) h.2⟩
      | 30, h => exact h
      | 31, h => exact hb.rows _ _ _ _ _ (.inr ⟨rfl, rfl, .inr (.inl ⟨rfl, rfl⟩)⟩) h
      | 32, h => exact hb.rows _ _ _ _ _ (.inr ⟨rfl, rfl, .inr (.inr (.inr ⟨rfl, rfl⟩))⟩) h
      | 33, h => exact h
      | 34, h => exact h
      | 35, h => exact h
      | _ + 36, _ => exact trivial
    simp only [List.take_succ_cons, List.take_zero, List.drop_succ_cons, List.drop_zero]
    refine SqS.sqw_quiet rfl rfl (ExtR.refl _ _ _) ?_; go_big_quiet_step (fail); refine wpQuiet_nil ?_
    refine SqS.sqw_value (.int .i64 (nl : Int)) rfl rfl (by intro U hU; go_simp) ?_
    simp only [Act.put, List.setIfInBounds_toArray, List.set_cons_zero, List.set_cons_succ]
    refine SqS.sqw_value (.bool true) rfl rfl (by intro U hU; go_simp) ?_
    simp only [Act.put, List.setIfInBounds_toArray, List.set_cons_zero, List.set_cons_succ]
    refine SqS.sqw_quiet rfl rfl (ExtR.refl _ _ _) ?_; go_big_quiet_step (fail); refine wpQuiet_nil ?_
    refine SqS.sqw_skip rfl ?_
    simp only [Act.put, List.setIfInBounds_toArray, List.set_cons_zero, List.set_cons_succ]
    refine SqS.sqw_skip rfl ?_
    simp only [Act.put, List.setIfInBounds_toArray, List.set_cons_zero, List.set_cons_succ]
    refine SqS.sqw_skip rfl ?_
    simp only [Act.put, List.setIfInBounds_toArray, List.set_cons_zero, List.set_cons_succ]
    refine SqS.sqw_value (.bool true) rfl rfl (by intro U hU; go_simp) ?_
    simp only [Act.put, List.setIfInBounds_toArray, List.set_cons_zero, List.set_cons_succ]
    refine SqS.sqw_quiet rfl rfl (ExtR.refl _ _ _) ?_; go_big_quiet_step (fail); refine wpQuiet_nil ?_
    refine SqS.sqw_skip rfl ?_
    simp only [Act.put, List.setIfInBounds_toArray, List.set_cons_zero, List.set_cons_succ]
    refine SqS.sqw_skip rfl ?_
    simp only [Act.put, List.setIfInBounds_toArray, List.set_cons_zero, List.set_cons_succ]
    refine SqS.sqw_skip rfl ?_
    simp only [Act.put, List.setIfInBounds_toArray, List.set_cons_zero, List.set_cons_succ]
    refine SqS.sqw_value (.bool true) rfl rfl (by intro U hU; go_simp) ?_
    simp only [Act.put, List.setIfInBounds_toArray, List.set_cons_zero, List.set_cons_succ]
    refine SqS.sqw_quiet rfl rfl (ExtR.refl _ _ _) ?_; go_big_quiet_step (fail); refine wpQuiet_nil ?_
    refine SqS.sqw_skip rfl ?_
    simp only [Act.put, List.setIfInBounds_toArray, List.set_cons_zero, List.set_cons_succ]
    refine SqS.sqw_skip rfl ?_
    simp only [Act.put, List.setIfInBounds_toArray, List.set_cons_zero, List.set_cons_succ]
    refine SqS.sqw_skip rfl ?_
    simp only [Act.put, List.setIfInBounds_toArray, List.set_cons_zero, List.set_cons_succ]
    refine SqS.sqw_skip rfl ?_
    simp only [Act.put, List.setIfInBounds_toArray, List.set_cons_zero, List.set_cons_succ]
    refine SqS.sqw_value (.bool true) rfl rfl (by intro U hU; go_simp) ?_
    simp only [Act.put, List.setIfInBounds_toArray, List.set_cons_zero, List.set_cons_succ]
    refine SqS.sqw_quiet rfl rfl (ExtR.refl _ _ _) ?_; go_big_quiet_step (fail); refine wpQuiet_nil ?_
    refine SqS.sqw_skip rfl ?_
    simp only [Act.put, List.setIfInBounds_toArray, List.set_cons_zero, List.set_cons_succ]
    refine SqS.sqw_skip rfl ?_
    simp only [Act.put, List.setIfInBounds_toArray, List.set_cons_zero, List.set_cons_succ]
    refine SqS.sqw_skip rfl ?_
    simp only [Act.put, List.setIfInBounds_toArray, List.set_cons_zero, List.set_cons_succ]
    refine SqS.sqw_skip rfl ?_
    simp only [Act.put, List.setIfInBounds_toArray, List.set_cons_zero, List.set_cons_succ]
    refine SqS.sqw_skip rfl ?_
    simp only [Act.put, List.setIfInBounds_toArray, List.set_cons_zero, List.set_cons_succ]
    refine SqS.sqw_skip rfl ?_
    simp only [Act.put, List.setIfInBounds_toArray, List.set_cons_zero, List.set_cons_succ]
    refine SqS.sqw_skip rfl ?_
    simp only [Act.put, List.setIfInBounds_toArray, List.set_cons_zero, List.set_cons_succ]
    refine SqS.sqw_skip rfl ?_
    simp only [Act.put, List.setIfInBounds_toArray, List.set_cons_zero, List.set_cons_succ]
    refine SqS.sqw_skip rfl ?_
    simp only [Act.put, List.setIfInBounds_toArray, List.set_cons_zero, List.set_cons_succ]
    refine SqS.sqw_skip rfl ?_
    simp only [Act.put, List.setIfInBounds_toArray, List.set_cons_zero, List.set_cons_succ]
    refine SqS.sqw_skip rfl ?_
    simp only [Act.put, List.setIfInBounds_toArray, List.set_cons_zero, List.set_cons_succ]
    refine SqS.sqw_skip rfl ?_
    simp only [Act.put, List.setIfInBounds_toArray, List.set_cons_zero, List.set_cons_succ]
    refine SqS.sqw_skip rfl ?_
    simp only [Act.put, List.setIfInBounds_toArray, List.set_cons_zero, List.set_cons_succ]
    refine SqS.sqw_skip rfl ?_
    simp only [Act.put, List.setIfInBounds_toArray, List.set_cons_zero, List.set_cons_succ]
    refine SqS.sqw_skip rfl ?_
    simp only [Act.put, List.setIfInBounds_toArray, List.set_cons_zero, List.set_cons_succ]
    refine SqS.sqw_value (.bool true) rfl rfl (by intro U hU; go_simp) ?_
    simp only [Act.put, List.setIfInBounds_toArray, List.set_cons_zero, List.set_cons_succ]
    refine SqS.sqw_nil ?_
    intro w7 hb hf hf2
    have B7 := Lib.hid (HXU.out w7 hb)
    clear hb hf hf2
    go_wp2_with (fail)
    refine (lives_any w7).mono ?_
    rintro e w8 ⟨rfl, bz⟩
    go_wp2
    go_ret
    exact ⟨rfl, B7.out.trans (bz.mono B7.out.size)⟩
  have g1 : (60 < (nl : Int)) = False := eq_false (by omega)
  by_cases h2 : ns ≤ 60
  case neg =>
    have g2 : (60 < (ns : Int)) = True := eq_true (by omega)
    clear h1 h2
    go_enter Try.func8, Try.ntmps8
    go_wp2
    rw [← HW1.out]
    refine SqS.wp_region_sqs 36 [10, 15, 16, 21, 23, 25, 26, 27, 29, 31, 32, 33] (ExtR base (goodM F X nl G ns (.int .i64 also))) (fun i a v W => match i with
      | 10 => ∃ b : Bool, v = .bool b
      | 15 => W.ownsRow base 58 10 v 1 X
      | 16 => ∃ b : Bool, v = .bool b
      | 21 => (∃ g, v = .slice (some ⟨g, 0, none⟩) 0 0) ∧ W.ownsRow base 58 10 v 0 []
      | 23 => v ≠ .slice none 0 0 ∧ W.ownsRow base 58 10 v nl F
      | 25 => W.ownsRow base 58 10 v 1 X
      | 26 => W.ownsRow base 58 10 v (nl + 1) (F ++ X)
      | 27 => (∃ g, v = .slice (some ⟨g, 0, none⟩) 0 0) ∧ W.ownsRow base 22 1 v 0 []
      | 29 => v ≠ .slice none 0 0 ∧ W.ownsRow base 22 1 v ns G
      | 31 => W.ownsRow base 22 1 v 1 [.int .i64 also]
      | 32 => W.ownsRow base 22 1 v (ns + 1) (G ++ [.int .i64 also])
      | 33 => v = .int .i64 E
      | _ => True) (by kernel_rfl) (by kernel_rfl) (fun i o a a' v W ho h hp => hp) (ExtR.refl _ _) (ExtR.trans _ _) ?st2 ?mn2
    case st2 =>
      intro i a v W W' h hb
      match i, h with
      | 0, h => exact h
      | 1, h => exact h
      | 2, h => exact h
      | 3, h => exact h
      | 4, h => exact h
      | 5, h => exact h
      | 6, h => exact h
      | 7, h => exact h
      | 8, h => exact h
      | 9, h => exact h
      | 10, h => exact h
      | 11, h => exact h
      | 12, h => exact h
      | 13, h => exact h
      | 14, h => exact h
      | 15, h => exact hb.rows _ _ _ _ _ (.inl ⟨rfl, rfl, .inr (.inl ⟨rfl, rfl⟩)⟩) h
      | 16, h => exact h
      | 17, h => exact h
      | 18, h => exact h
      | 19, h => exact h
      | 20, h => exact h
      | 21, h => exact ⟨h.1, hb.rows _ _ _ _ _ (.inl ⟨rfl, rfl, .inl ⟨rfl, rfl⟩⟩) h.2⟩
      | 22, h => exact h
      | 23, h => exact ⟨h.1, hb.rows _ _ _ _ _ (.inl ⟨rfl, rfl, .inr (.inr (.inl ⟨rfl, rfl⟩))⟩) h.2⟩
      | 24, h => exact h
      | 25, h => exact hb.rows _ _ _ _ _ (.inl ⟨rfl, rfl, .inr (.inl ⟨rfl, rfl⟩)⟩) h
      | 26, h => exact hb.rows _ _ _ _ _ (.inl ⟨rfl, rfl, .inr (.inr (.inr ⟨rfl, rfl⟩))⟩) h
      | 27, h => exact ⟨h.1, hb.rows _ _ _ _ _ (.inr ⟨rfl, rfl, .inl ⟨rfl, rfl⟩⟩) h.2⟩
      | 28, h => exact h
      | 29, h => exact ⟨h.1, hb.rows _ _ _ _ _ (.inr ⟨rfl, rfl, .inr (.inr (.inl ⟨rfl, rfl⟩))⟩) h.2⟩
      | 30, h => exact h
      | 31, h => exact hb.rows _ _ _ _ _ (.inr ⟨rfl, rfl, .inr (.inl ⟨rfl, rfl⟩)⟩) h
      | 32, h => exact hb.rows _ _ _ _ _ (.inr ⟨rfl, rfl, .inr (.inr (.inr ⟨rfl, rfl⟩))⟩) h
      | 33, h => exact h
      | 34, h => exact h
      | 35, h => exact h
      | _ + 36, _ => exact trivial
    simp only [List.take_succ_cons, List.take_zero, List.drop_succ_cons, List.drop_zero]
    refine SqS.sqw_quiet rfl rfl (ExtR.refl _ _ _) ?_; go_big_quiet_step (fail); refine wpQuiet_nil ?_
    refine SqS.sqw_value (.int .i64 (nl : Int)) rfl rfl (by intro U hU; go_simp) ?_
    simp only [Act.put, List.setIfInBounds_toArray, List.set_cons_zero, List.set_cons_succ]
    refine SqS.sqw_value (.bool false) rfl rfl (by intro U hU; go_simp) ?_
    simp only [Act.put, List.setIfInBounds_toArray, List.set_cons_zero, List.set_cons_succ]
    refine SqS.sqw_quiet rfl rfl (ExtR.refl _ _ _) ?_; go_big_quiet_step (fail); refine wpQuiet_nil ?_
    refine SqS.sqw_quiet rfl rfl (ExtR.refl _ _ _) ?_; go_big_quiet_step (fail); refine wpQuiet_nil ?_
    refine SqS.sqw_value (.int .i64 (ns : Int)) rfl rfl (by intro U hU; go_simp) ?_
    simp only [Act.put, List.setIfInBounds_toArray, List.set_cons_zero, List.set_cons_succ]
    refine SqS.sqw_value (.bool true) rfl rfl (by intro U hU; go_simp) ?_
    simp only [Act.put, List.setIfInBounds_toArray, List.set_cons_zero, List.set_cons_succ]
    refine SqS.sqw_value (.bool true) rfl rfl (by intro U hU; go_simp) ?_
    simp only [Act.put, List.setIfInBounds_toArray, List.set_cons_zero, List.set_cons_succ]
    refine SqS.sqw_quiet rfl rfl (ExtR.refl _ _ _) ?_; go_big_quiet_step (fail); refine wpQuiet_nil ?_
    refine SqS.sqw_skip rfl ?_
    simp only [Act.put, List.setIfInBounds_toArray, List.set_cons_zero, List.set_cons_succ]
    refine SqS.sqw_skip rfl ?_
    simp only [Act.put, List.setIfInBounds_toArray, List.set_cons_zero, List.set_cons_succ]
    refine SqS.sqw_skip rfl ?_
    simp only [Act.put, List.setIfInBounds_toArray, List.set_cons_zero, List.set_cons_succ]
    refine SqS.sqw_value (.bool true) rfl rfl (by intro U hU; go_simp) ?_
    simp only [Act.put, List.setIfInBounds_toArray, List.set_cons_zero, List.set_cons_succ]
    refine SqS.sqw_quiet rfl rfl (ExtR.refl _ _ _) ?_; go_big_quiet_step (fail); refine wpQuiet_nil ?_
    refine SqS.sqw_skip rfl ?_
    simp only [Act.put, List.setIfInBounds_toArray, List.set_cons_zero, List.set_cons_succ]
    refine SqS.sqw_skip rfl ?_
    simp only [Act.put, List.setIfInBounds_toArray, List.set_cons_zero, List.set_cons_succ]
    refine SqS.sqw_skip rfl ?_
    simp only [Act.put, List.setIfInBounds_toArray, List.set_cons_zero, List.set_cons_succ]
    refine SqS.sqw_skip rfl ?_
    simp only [Act.put, List.setIfInBounds_toArray, List.set_cons_zero, List.set_cons_succ]
    refine SqS.sqw_value (.bool true) rfl rfl (by intro U hU; go_simp) ?_
    simp only [Act.put, List.setIfInBounds_toArray, List.set_cons_zero, List.set_cons_succ]
    refine SqS.sqw_quiet rfl rfl (ExtR.refl _ _ _) ?_; go_big_quiet_step (fail); refine wpQuiet_nil ?_
    refine SqS.sqw_skip rfl ?_
    simp only [Act.put, List.setIfInBounds_toArray, List.set_cons_zero, List.set_cons_succ]
    refine SqS.sqw_skip rfl ?_
    simp only [Act.put, List.setIfInBounds_toArray, List.set_cons_zero, List.set_cons_succ]
    refine SqS.sqw_skip rfl ?_
    simp only [Act.put, List.setIfInBounds_toArray, List.set_cons_zero, List.set_cons_succ]
    refine SqS.sqw_skip rfl ?_
    simp only [Act.put, List.setIfInBounds_toArray, List.set_cons_zero, List.set_cons_succ]
    refine SqS.sqw_skip rfl ?_
    simp only [Act.put, List.setIfInBounds_toArray, List.set_cons_zero, List.set_cons_succ]
    refine SqS.sqw_skip rfl ?_
    simp only [Act.put, List.setIfInBounds_toArray, List.set_cons_zero, List.set_cons_succ]
    refine SqS.sqw_skip rfl ?_
    simp only [Act.put, List.setIfInBounds_toArray, List.set_cons_zero, List.set_cons_succ]
    refine SqS.sqw_skip rfl ?_
    simp only [Act.put, List.setIfInBounds_toArray, List.set_cons_zero, List.set_cons_succ]
    refine SqS.sqw_skip rfl ?_
    simp only [Act.put, List.setIfInBounds_toArray, List.set_cons_zero, List.set_cons_succ]
    refine SqS.sqw_skip rfl ?_
    simp only [Act.put, List.setIfInBounds_toArray, List.set_cons_zero, List.set_cons_succ]
    refine SqS.sqw_skip rfl ?_
    simp only [Act.put, List.setIfInBounds_toArray, List.set_cons_zero, List.set_cons_succ]
    refine SqS.sqw_skip rfl ?_
    simp only [Act.put, List.setIfInBounds_toArray, List.set_cons_zero, List.set_cons_succ]
    refine SqS.sqw_skip rfl ?_
    simp only [Act.put, List.setIfInBounds_toArray, List.set_cons_zero, List.set_cons_succ]
    refine SqS.sqw_skip rfl ?_
    simp only [Act.put, List.setIfInBounds_toArray, List.set_cons_zero, List.set_cons_succ]
    refine SqS.sqw_skip rfl ?_
    simp only [Act.put, List.setIfInBounds_toArray, List.set_cons_zero, List.set_cons_succ]
    refine SqS.sqw_value (.bool true) rfl rfl (by intro U hU; go_simp) ?_
    simp only [Act.put, List.setIfInBounds_toArray, List.set_cons_zero, List.set_cons_succ]
    refine SqS.sqw_nil ?_
    intro w7 hb hf hf2
    have B7 := Lib.hid (HXU.out w7 hb)
    clear hb hf hf2
    go_wp2_with (fail)
    refine (lives_any w7).mono ?_
    rintro e w8 ⟨rfl, bz⟩
    go_wp2
    go_ret
    exact ⟨rfl, B7.out.trans (bz.mono B7.out.size)⟩
  have g2 : (60 < (ns : Int)) = False := eq_false (by omega)
  have H1 := Lib.hid h1; clear h1
  have H2 := Lib.hid h2; clear h2
  go_enter Try.func8, Try.ntmps8
  go_wp2
  rw [← HW1.out]
  refine SqS.wp_region_sqs 36 [10, 15, 16, 21, 23, 25, 26, 27, 29, 31, 32, 33] (ExtR base (goodM F X nl G ns (.int .i64 also))) (fun i a v W => match i with
    | 10 => ∃ b : Bool, v = .bool b
    | 15 => W.ownsRow base 58 10 v 1 X
    | 16 => ∃ b : Bool, v = .bool b
    | 21 => (∃ g, v = .slice (some ⟨g, 0, none⟩) 0 0) ∧ W.ownsRow base 58 10 v 0 []
    | 23 => v ≠ .slice none 0 0 ∧ W.ownsRow base 58 10 v nl F
    | 25 => W.ownsRow base 58 10 v 1 X
    | 26 => W.ownsRow base 58 10 v (nl + 1) (F ++ X)
    | 27 => (∃ g, v = .slice (some ⟨g, 0, none⟩) 0 0) ∧ W.ownsRow base 22 1 v 0 []
    | 29 => v ≠ .slice none 0 0 ∧ W.ownsRow base 22 1 v ns G
    | 31 => W.ownsRow base 22 1 v 1 [.int .i64 also]
    | 32 => W.ownsRow base 22 1 v (ns + 1) (G ++ [.int .i64 also])
    | 33 => v = .int .i64 E
    | _ => True) (by kernel_rfl) (by kernel_rfl) (fun i o a a' v W ho h hp => hp) (ExtR.refl _ _) (ExtR.trans _ _) ?st3 ?mn3
  case st3 =>
    intro i a v W W' h hb
    match i, h with
    | 0, h => exact h
    | 1, h => exact h
    | 2, h => exact h
    | 3, h => exact h
    | 4, h => exact h
    | 5, h => exact h
    | 6, h => exact h
    | 7, h => exact h
    | 8, h => exact h
    | 9, h => exact h
    | 10, h => exact h
    | 11, h => exact h
    | 12, h => exact h
    | 13, h => exact h
    | 14, h => exact h
    | 15, h => exact hb.rows _ _ _ _ _ (.inl ⟨rfl, rfl, .inr (.inl ⟨rfl, rfl⟩)⟩) h
    | 16, h => exact h
    | 17, h => exact h
    | 18, h => exact h
    | 19, h => exact h
    | 20, h => exact h
    | 21, h => exact ⟨h.1, hb.rows _ _ _ _ _ (.inl ⟨rfl, rfl, .inl ⟨rfl, rfl⟩⟩) h.2⟩
    | 22, h => exact h
    | 23, h => exact ⟨h.1, hb.rows _ _ _ _ _ (.inl ⟨rfl, rfl, .inr (.inr (.inl ⟨rfl, rfl⟩))⟩) h.2⟩
    | 24, h => exact h
    | 25, h => exact hb.rows _ _ _ _ _ (.inl ⟨rfl, rfl, .inr (.inl ⟨rfl, rfl⟩)⟩) h
    | 26, h => exact hb.rows _ _ _ _ _ (.inl ⟨rfl, rfl, .inr (.inr (.inr ⟨rfl, rfl⟩))⟩) h
    | 27, h => exact ⟨h.1, hb.rows _ _ _ _ _ (.inr ⟨rfl, rfl, .inl ⟨rfl, rfl⟩⟩) h.2⟩
    | 28, h => exact h
    | 29, h => exact ⟨h.1, hb.rows _ _ _ _ _ (.inr ⟨rfl, rfl, .inr (.inr (.inl ⟨rfl, rfl⟩))⟩) h.2⟩
    | 30, h => exact h
    | 31, h => exact hb.rows _ _ _ _ _ (.inr ⟨rfl, rfl, .inr (.inl ⟨rfl, rfl⟩)⟩) h
    | 32, h => exact hb.rows _ _ _ _ _ (.inr ⟨rfl, rfl, .inr (.inr (.inr ⟨rfl, rfl⟩))⟩) h
    | 33, h => exact h
    | 34, h => exact h
    | 35, h => exact h
    | _ + 36, _ => exact trivial
  simp only [List.take_succ_cons, List.take_zero, List.drop_succ_cons, List.drop_zero]
  refine SqS.sqw_quiet rfl rfl (ExtR.refl _ _ _) ?_; go_big_quiet_step (fail); refine wpQuiet_nil ?_
  refine SqS.sqw_value (.int .i64 (nl : Int)) rfl rfl (by intro U hU; go_simp) ?_
  simp only [Act.put, List.setIfInBounds_toArray, List.set_cons_zero, List.set_cons_succ]
  refine SqS.sqw_value (.bool false) rfl rfl (by intro U hU; go_simp) ?_
  simp only [Act.put, List.setIfInBounds_toArray, List.set_cons_zero, List.set_cons_succ]
  refine SqS.sqw_quiet rfl rfl (ExtR.refl _ _ _) ?_; go_big_quiet_step (fail); refine wpQuiet_nil ?_
  refine SqS.sqw_quiet rfl rfl (ExtR.refl _ _ _) ?_; go_big_quiet_step (fail); refine wpQuiet_nil ?_
  refine SqS.sqw_value (.int .i64 (ns : Int)) rfl rfl (by intro U hU; go_simp) ?_
  simp only [Act.put, List.setIfInBounds_toArray, List.set_cons_zero, List.set_cons_succ]
  refine SqS.sqw_value (.bool false) rfl rfl (by intro U hU; go_simp) ?_
  simp only [Act.put, List.setIfInBounds_toArray, List.set_cons_zero, List.set_cons_succ]
  refine SqS.sqw_value (.bool false) rfl rfl (by intro U hU; go_simp) ?_
  simp only [Act.put, List.setIfInBounds_toArray, List.set_cons_zero, List.set_cons_succ]
  refine SqS.sqw_quiet rfl rfl (ExtR.refl _ _ _) ?_; go_big_quiet_step (fail); refine wpQuiet_nil ?_
  refine SqS.sqw_quiet rfl rfl (ExtR.refl _ _ _) ?_; go_big_quiet_step (fail); refine wpQuiet_nil ?_
  refine SqS.sqw_postY rfl rfl ?_ ?_
  · intro U hb hf
    refine yields_call rfl (by kernel_rfl) rfl rfl ((HP1.out U (HXU.out U hb)).mono ?_)
    rintro e u1 ⟨pb, rfl, h1⟩
    exact ⟨_, rfl, ⟨pb, rfl⟩, ExtR.of h1 (HXB.out U hb)⟩
  intro v Wj hv
  obtain ⟨pb, rfl⟩ := hv
  simp only [Act.put, List.setIfInBounds_toArray, List.set_cons_zero, List.set_cons_succ]
  cases pb with
  | false =>
    refine SqS.sqw_value (.bool true) rfl rfl (by intro U hU; go_simp) ?_
    simp only [Act.put, List.setIfInBounds_toArray, List.set_cons_zero, List.set_cons_succ]
    refine SqS.sqw_value (.bool true) rfl rfl (by intro U hU; go_simp) ?_
    simp only [Act.put, List.setIfInBounds_toArray, List.set_cons_zero, List.set_cons_succ]
    refine SqS.sqw_quiet rfl rfl (ExtR.refl _ _ _) ?_; go_big_quiet_step (fail); refine wpQuiet_nil ?_
    refine SqS.sqw_skip rfl ?_
    simp only [Act.put, List.setIfInBounds_toArray, List.set_cons_zero, List.set_cons_succ]
    refine SqS.sqw_skip rfl ?_
    simp only [Act.put, List.setIfInBounds_toArray, List.set_cons_zero, List.set_cons_succ]
    refine SqS.sqw_skip rfl ?_
    simp only [Act.put, List.setIfInBounds_toArray, List.set_cons_zero, List.set_cons_succ]
    refine SqS.sqw_skip rfl ?_
    simp only [Act.put, List.setIfInBounds_toArray, List.set_cons_zero, List.set_cons_succ]
    refine SqS.sqw_value (.bool true) rfl rfl (by intro U hU; go_simp) ?_
    simp only [Act.put, List.setIfInBounds_toArray, List.set_cons_zero, List.set_cons_succ]
    refine SqS.sqw_quiet rfl rfl (ExtR.refl _ _ _) ?_; go_big_quiet_step (fail); refine wpQuiet_nil ?_
    refine SqS.sqw_skip rfl ?_
    simp only [Act.put, List.setIfInBounds_toArray, List.set_cons_zero, List.set_cons_succ]
    refine SqS.sqw_skip rfl ?_
    simp only [Act.put, List.setIfInBounds_toArray, List.set_cons_zero, List.set_cons_succ]
    refine SqS.sqw_skip rfl ?_
    simp only [Act.put, List.setIfInBounds_toArray, List.set_cons_zero, List.set_cons_succ]
    refine SqS.sqw_skip rfl ?_
    simp only [Act.put, List.setIfInBounds_toArray, List.set_cons_zero, List.set_cons_succ]
    refine SqS.sqw_skip rfl ?_
    simp only [Act.put, List.setIfInBounds_toArray, List.set_cons_zero, List.set_cons_succ]
    refine SqS.sqw_skip rfl ?_
    simp only [Act.put, List.setIfInBounds_toArray, List.set_cons_zero, List.set_cons_succ]
    refine SqS.sqw_skip rfl ?_
    simp only [Act.put, List.setIfInBounds_toArray, List.set_cons_zero, List.set_cons_succ]
    refine SqS.sqw_skip rfl ?_
    simp only [Act.put, List.setIfInBounds_toArray, List.set_cons_zero, List.set_cons_succ]
    refine SqS.sqw_skip rfl ?_
    simp only [Act.put, List.setIfInBounds_toArray, List.set_cons_zero, List.set_cons_succ]
    refine SqS.sqw_skip rfl ?_
    simp only [Act.put, List.setIfInBounds_toArray, List.set_cons_zero, List.set_cons_succ]
    refine SqS.sqw_skip rfl ?_
    simp only [Act.put, List.setIfInBounds_toArray, List.set_cons_zero, List.set_cons_succ]
    refine SqS.sqw_skip rfl ?_
    simp only [Act.put, List.setIfInBounds_toArray, List.set_cons_zero, List.set_cons_succ]
    refine SqS.sqw_skip rfl ?_
    simp only [Act.put, List.setIfInBounds_toArray, List.set_cons_zero, List.set_cons_succ]
    refine SqS.sqw_skip rfl ?_
    simp only [Act.put, List.setIfInBounds_toArray, List.set_cons_zero, List.set_cons_succ]
    refine SqS.sqw_skip rfl ?_
    simp only [Act.put, List.setIfInBounds_toArray, List.set_cons_zero, List.set_cons_succ]
    refine SqS.sqw_value (.bool true) rfl rfl (by intro U hU; go_simp) ?_
    simp only [Act.put, List.setIfInBounds_toArray, List.set_cons_zero, List.set_cons_succ]
    refine SqS.sqw_nil ?_
    intro w7 hb hf hf2
    have B7 := Lib.hid (HXU.out w7 hb)
    clear hb hf hf2
    go_wp2_with (fail)
    refine (lives_any w7).mono ?_
    rintro e w8 ⟨rfl, bz⟩
    go_wp2
    go_ret
    exact ⟨rfl, B7.out.trans (bz.mono B7.out.size)⟩
  | true =>
    refine SqS.sqw_value (.bool false) rfl rfl (by intro U hU; go_simp) ?_
    simp only [Act.put, List.setIfInBounds_toArray, List.set_cons_zero, List.set_cons_succ]
    refine SqS.sqw_value (.bool false) rfl rfl (by intro U hU; go_simp) ?_
    simp only [Act.put, List.setIfInBounds_toArray, List.set_cons_zero, List.set_cons_succ]
    refine SqS.sqw_quiet rfl rfl (ExtR.refl _ _ _) ?_; go_big_quiet_step (fail); refine wpQuiet_nil ?_
    refine SqS.sqw_value (.agg #[.int .i64 xw, .int .i64 xp, .bool na, .slice sa da.length ya, .bool nb, .slice sb db.length yb, .bool nc, .slice sc dc.length yc, .bool nd, .slice sd dd.length yd]) rfl rfl (by intro U hU; have hc := HXC.out U hU; have hi := HINF.out; rw [HXD.out] at hc hi; exact load_agg_exec rfl rfl (run_load_agg hc aggS hi)) ?_
    simp only [Act.put, List.setIfInBounds_toArray, List.set_cons_zero, List.set_cons_succ]
    refine SqS.sqw_postY rfl rfl ?_ ?_
    · intro U hb hf
      refine yields_value (v := .slice (some ⟨U.heap.size, 0, none⟩) 1 1) (w' := U.alloc (.cells #[.int .i64 xw, .int .i64 xp, .bool na, .slice sa da.length ya, .bool nb, .slice sb db.length yb, .bool nc, .slice sc dc.length yc, .bool nd, .slice sd dd.length yd] 58)) ?_ ⟨?_, ExtR.of (alloc_below _ _) (HXB.out U hb)⟩
      · go_simp
      · show (U.alloc (.cells #[.int .i64 xw, .int .i64 xp, .bool na, .slice sa da.length ya, .bool nb, .slice sb db.length yb, .bool nc, .slice sc dc.length yc, .bool nd, .slice sd dd.length yd] 58)).ownsRow base 58 10 (.slice (some ⟨U.heap.size, 0, none⟩) 1 1) 1 X
        rw [HXD.out]
        exact own_newS U #[.int .i64 xw, .int .i64 xp, .bool na, .slice sa da.length ya, .bool nb, .slice sb db.length yb, .bool nc, .slice sc dc.length yc, .bool nd, .slice sd dd.length yd] 58 1 10 base rfl (by decide) (HXB.out U hb)
    intro v Wj hv
    obtain ⟨s15, c15, rfl, _⟩ := own_slice hv
    simp only [Act.put, List.setIfInBounds_toArray, List.set_cons_zero, List.set_cons_succ]
    refine SqS.sqw_postY rfl rfl ?_ ?_
    · intro U hb hf
      have h1 : U.ownsRow base 58 10 (.slice s15 1 c15) 1 X := hf 15 40 (by kernel_rfl) rfl rfl (fun o h => by obtain rfl := Option.some.inj h; rfl)
      refine yields_call rfl (by kernel_rfl) rfl rfl ((HP2'.out U s15 c15 (HXU.out U hb) (Sl.of_owns h1)).mono ?_)
      rintro e u1 ⟨pb, rfl, h1⟩
      exact ⟨_, rfl, ⟨pb, rfl⟩, ExtR.of h1 (HXB.out U hb)⟩
    intro v Wj hv
    obtain ⟨pb, rfl⟩ := hv
    simp only [Act.put, List.setIfInBounds_toArray, List.set_cons_zero, List.set_cons_succ]
    cases pb with
    | false =>
      refine SqS.sqw_value (.bool true) rfl rfl (by intro U hU; go_simp) ?_
      simp only [Act.put, List.setIfInBounds_toArray, List.set_cons_zero, List.set_cons_succ]
      refine SqS.sqw_value (.bool true) rfl rfl (by intro U hU; go_simp) ?_
      simp only [Act.put, List.setIfInBounds_toArray, List.set_cons_zero, List.set_cons_succ]
      refine SqS.sqw_quiet rfl rfl (ExtR.refl _ _ _) ?_; go_big_quiet_step (fail); refine wpQuiet_nil ?_
      refine SqS.sqw_skip rfl ?_
      simp only [Act.put, List.setIfInBounds_toArray, List.set_cons_zero, List.set_cons_succ]
      refine SqS.sqw_skip rfl ?_
      simp only [Act.put, List.setIfInBounds_toArray, List.set_cons_zero, List.set_cons_succ]
      refine SqS.sqw_skip rfl ?_
      simp only [Act.put, List.setIfInBounds_toArray, List.set_cons_zero, List.set_cons_succ]
      refine SqS.sqw_skip rfl ?_
      simp only [Act.put, List.setIfInBounds_toArray, List.set_cons_zero, List.set_cons_succ]
      refine SqS.sqw_skip rfl ?_
      simp only [Act.put, List.setIfInBounds_toArray, List.set_cons_zero, List.set_cons_succ]
      refine SqS.sqw_skip rfl ?_
      simp only [Act.put, List.setIfInBounds_toArray, List.set_cons_zero, List.set_cons_succ]
      refine SqS.sqw_skip rfl ?_
      simp only [Act.put, List.setIfInBounds_toArray, List.set_cons_zero, List.set_cons_succ]
      refine SqS.sqw_skip rfl ?_
      simp only [Act.put, List.setIfInBounds_toArray, List.set_cons_zero, List.set_cons_succ]
      refine SqS.sqw_skip rfl ?_
      simp only [Act.put, List.setIfInBounds_toArray, List.set_cons_zero, List.set_cons_succ]
      refine SqS.sqw_skip rfl ?_
      simp only [Act.put, List.setIfInBounds_toArray, List.set_cons_zero, List.set_cons_succ]
      refine SqS.sqw_skip rfl ?_
      simp only [Act.put, List.setIfInBounds_toArray, List.set_cons_zero, List.set_cons_succ]
      refine SqS.sqw_skip rfl ?_
      simp only [Act.put, List.setIfInBounds_toArray, List.set_cons_zero, List.set_cons_succ]
      refine SqS.sqw_skip rfl ?_
      simp only [Act.put, List.setIfInBounds_toArray, List.set_cons_zero, List.set_cons_succ]
      refine SqS.sqw_skip rfl ?_
      simp only [Act.put, List.setIfInBounds_toArray, List.set_cons_zero, List.set_cons_succ]
      refine SqS.sqw_skip rfl ?_
      simp only [Act.put, List.setIfInBounds_toArray, List.set_cons_zero, List.set_cons_succ]
      refine SqS.sqw_value (.bool true) rfl rfl (by intro U hU; go_simp) ?_
      simp only [Act.put, List.setIfInBounds_toArray, List.set_cons_zero, List.set_cons_succ]
      refine SqS.sqw_nil ?_
      intro w7 hb hf hf2
      have B7 := Lib.hid (HXU.out w7 hb)
      clear hb hf hf2
      go_wp2_with (fail)
      refine (lives_any w7).mono ?_
      rintro e w8 ⟨rfl, bz⟩
      go_wp2
      go_ret
      exact ⟨rfl, B7.out.trans (bz.mono B7.out.size)⟩
    | true =>
      refine SqS.sqw_value (.bool false) rfl rfl (by intro U hU; go_simp) ?_
      simp only [Act.put, List.setIfInBounds_toArray, List.set_cons_zero, List.set_cons_succ]
      refine SqS.sqw_value (.bool false) rfl rfl (by intro U hU; go_simp) ?_
      simp only [Act.put, List.setIfInBounds_toArray, List.set_cons_zero, List.set_cons_succ]
      refine SqS.sqw_quiet rfl rfl (ExtR.refl _ _ _) ?_; go_big_quiet_step (fail); refine wpQuiet_nil ?_
      refine SqS.sqw_quiet rfl rfl (ExtR.refl _ _ _) ?_; go_big_quiet_step (fail); refine wpQuiet_nil ?_
      refine SqS.sqw_postY rfl rfl ?_ ?_
      · intro U hb hf
        refine yields_value (v := .slice (some ⟨U.heap.size, 0, none⟩) 0 0) (w' := U.alloc (.cells #[] 58)) ?_ ⟨⟨⟨_, rfl⟩, ?_⟩, ExtR.of (alloc_below _ _) (HXB.out U hb)⟩
        · go_simp
        · exact World.ownsRow_made (e := 58) (size := 10) U #[] 0 (HXB.out U hb) (by decide) (by simp)
      intro v Wj hv
      obtain ⟨g21, rfl⟩ := hv.1
      simp only [Act.put, List.setIfInBounds_toArray, List.set_cons_zero, List.set_cons_succ]
      refine SqS.sqw_quiet rfl rfl (ExtR.refl _ _ _) ?_; go_big_quiet_step (fail); refine wpQuiet_nil ?_
      refine SqS.sqw_postY rfl rfl ?_ ?_
      · intro U hb hf
        have h1 : (∃ g, Value.slice (some ⟨g21, 0, none⟩) 0 0 = .slice (some ⟨g, 0, none⟩) 0 0) ∧ U.ownsRow base 58 10 (.slice (some ⟨g21, 0, none⟩) 0 0) 0 [] := hf 21 46 (by kernel_rfl) rfl rfl (fun o h => by obtain rfl := Option.some.inj h; rfl)
        refine yields_append (good := goodM F X nl G ns (.int .i64 also)) (.tmp 46) (.tmp 47) 23 rfl base 58 _ 10 144 hTspl2 infoSpl' rfl (by decide) (.slice (some ⟨g21, 0, none⟩) 0 0) 0 [] rfl h1.2 (by simp) s nl ca F rfl (fun _ => HSF.out U (HXU.out U hb)) HF.out HFO.out (by have := H1.out; unfold maxLen; omega) (by have := H1.out; omega) (HXB.out U hb) (fun sa cap e h hm => by injection e with _ _ e; omega) ?_
        intro v' W' k1 k2 k3
        exact ⟨⟨k2, by simpa using k1⟩, k3⟩
      intro v Wj hv
      obtain ⟨s23, c23, rfl, _⟩ := own_slice hv.2
      simp only [Act.put, List.setIfInBounds_toArray, List.set_cons_zero, List.set_cons_succ]
      refine SqS.sqw_value (.agg #[.int .i64 xw, .int .i64 xp, .bool na, .slice sa da.length ya, .bool nb, .slice sb db.length yb, .bool nc, .slice sc dc.length yc, .bool nd, .slice sd dd.length yd]) rfl rfl (by intro U hU; have hc := HXC.out U hU; have hi := HINF.out; rw [HXD.out] at hc hi; exact load_agg_exec rfl rfl (run_load_agg hc aggS hi)) ?_
      simp only [Act.put, List.setIfInBounds_toArray, List.set_cons_zero, List.set_cons_succ]
      refine SqS.sqw_postY rfl rfl ?_ ?_
      · intro U hb hf
        refine yields_value (v := .slice (some ⟨U.heap.size, 0, none⟩) 1 1) (w' := U.alloc (.cells #[.int .i64 xw, .int .i64 xp, .bool na, .slice sa da.length ya, .bool nb, .slice sb db.length yb, .bool nc, .slice sc dc.length yc, .bool nd, .slice sd dd.length yd] 58)) ?_ ⟨?_, ExtR.of (alloc_below _ _) (HXB.out U hb)⟩
        · go_simp
        · show (U.alloc (.cells #[.int .i64 xw, .int .i64 xp, .bool na, .slice sa da.length ya, .bool nb, .slice sb db.length yb, .bool nc, .slice sc dc.length yc, .bool nd, .slice sd dd.length yd] 58)).ownsRow base 58 10 (.slice (some ⟨U.heap.size, 0, none⟩) 1 1) 1 X
          rw [HXD.out]
          exact own_newS U #[.int .i64 xw, .int .i64 xp, .bool na, .slice sa da.length ya, .bool nb, .slice sb db.length yb, .bool nc, .slice sc dc.length yc, .bool nd, .slice sd dd.length yd] 58 1 10 base rfl (by decide) (HXB.out U hb)
      intro v Wj hv
      obtain ⟨s25, c25, rfl, _⟩ := own_slice hv
      simp only [Act.put, List.setIfInBounds_toArray, List.set_cons_zero, List.set_cons_succ]
      refine SqS.sqw_postY rfl rfl ?_ ?_
      · intro U hb hf
        have h1 : Value.slice s23 nl c23 ≠ .slice none 0 0 ∧ U.ownsRow base 58 10 (.slice s23 nl c23) nl F := hf 23 48 (by kernel_rfl) rfl rfl (fun o h => by obtain rfl := Option.some.inj h; rfl)
        have h2 : U.ownsRow base 58 10 (.slice s25 1 c25) 1 X := hf 25 50 (by kernel_rfl) rfl rfl (fun o h => by obtain rfl := Option.some.inj h; rfl)
        refine yields_append (good := goodM F X nl G ns (.int .i64 also)) (.tmp 48) (.tmp 50) 23 rfl base 58 _ 10 144 hTspl2 infoSpl' rfl (by decide) (.slice s23 nl c23) nl F rfl h1.2 h1.1 s25 1 c25 X rfl (fun _ => Sl.of_owns h2) HXL.out HXO.out (by have := H1.out; unfold maxLen; omega) (by have := H1.out; omega) (HXB.out U hb) (fun sa cap e h hm size2 k Y hg => good_spl HF.out HXL.out hg) ?_
        intro v' W' k1 k2 k3
        exact ⟨k1, k3⟩
      intro v Wj hv
      obtain ⟨s26, c26, rfl, _⟩ := own_slice hv
      simp only [Act.put, List.setIfInBounds_toArray, List.set_cons_zero, List.set_cons_succ]
      refine SqS.sqw_postY rfl rfl ?_ ?_
      · intro U hb hf
        refine yields_value (v := .slice (some ⟨U.heap.size, 0, none⟩) 0 0) (w' := U.alloc (.cells #[] 22)) ?_ ⟨⟨⟨_, rfl⟩, ?_⟩, ExtR.of (alloc_below _ _) (HXB.out U hb)⟩
        · go_simp
        · exact World.ownsRow_made (e := 22) (size := 1) U #[] 0 (HXB.out U hb) (by decide) (by simp)
      intro v Wj hv
      obtain ⟨g27, rfl⟩ := hv.1
      simp only [Act.put, List.setIfInBounds_toArray, List.set_cons_zero, List.set_cons_succ]
      refine SqS.sqw_quiet rfl rfl (ExtR.refl _ _ _) ?_; go_big_quiet_step (fail); refine wpQuiet_nil ?_
      refine SqS.sqw_postY rfl rfl ?_ ?_
      · intro U hb hf
        have h1 : (∃ g, Value.slice (some ⟨g27, 0, none⟩) 0 0 = .slice (some ⟨g, 0, none⟩) 0 0) ∧ U.ownsRow base 22 1 (.slice (some ⟨g27, 0, none⟩) 0 0) 0 [] := hf 27 52 (by kernel_rfl) rfl rfl (fun o h => by obtain rfl := Option.some.inj h; rfl)
        refine yields_append (good := goodM F X nl G ns (.int .i64 also)) (.tmp 52) (.tmp 53) 24 rfl base 22 (.int .i64 0) 1 8 hTsets infoSet8 rfl (by decide) (.slice (some ⟨g27, 0, none⟩) 0 0) 0 [] rfl h1.2 (by simp) t ns cb G rfl (HSG.out U (HXU.out U hb)) (by rw [Nat.mul_one]; exact HG.out) HGO.out (by have := H2.out; unfold maxLen; omega) (by have := H2.out; omega) (HXB.out U hb) (fun sa cap e h hm => by injection e with _ _ e; omega) ?_
        intro v' W' k1 k2 k3
        exact ⟨⟨k2, by simpa using k1⟩, k3⟩
      intro v Wj hv
      obtain ⟨s29, c29, rfl, _⟩ := own_slice hv.2
      simp only [Act.put, List.setIfInBounds_toArray, List.set_cons_zero, List.set_cons_succ]
      refine SqS.sqw_quiet rfl rfl (ExtR.refl _ _ _) ?_; go_big_quiet_step (fail); refine wpQuiet_nil ?_
      refine SqS.sqw_postY rfl rfl ?_ ?_
      · intro U hb hf
        refine yields_value (v := .slice (some ⟨U.heap.size, 0, none⟩) 1 1) (w' := U.alloc (.cells #[.int .i64 also] 22)) ?_ ⟨?_, ExtR.of (alloc_below _ _) (HXB.out U hb)⟩
        · go_simp
        · exact own_newS U #[.int .i64 also] 22 1 1 base rfl (by decide) (HXB.out U hb)
      intro v Wj hv
      obtain ⟨s31, c31, rfl, _⟩ := own_slice hv
      simp only [Act.put, List.setIfInBounds_toArray, List.set_cons_zero, List.set_cons_succ]
      refine SqS.sqw_postY rfl rfl ?_ ?_
      · intro U hb hf
        have h1 : Value.slice s29 ns c29 ≠ .slice none 0 0 ∧ U.ownsRow base 22 1 (.slice s29 ns c29) ns G := hf 29 54 (by kernel_rfl) rfl rfl (fun o h => by obtain rfl := Option.some.inj h; rfl)
        have h2 : U.ownsRow base 22 1 (.slice s31 1 c31) 1 [.int .i64 also] := hf 31 56 (by kernel_rfl) rfl rfl (fun o h => by obtain rfl := Option.some.inj h; rfl)
        refine yields_append (good := goodM F X nl G ns (.int .i64 also)) (.tmp 54) (.tmp 56) 24 rfl base 22 (.int .i64 0) 1 8 hTsets infoSet8 rfl (by decide) (.slice s29 ns c29) ns G rfl h1.2 h1.1 s31 1 c31 [.int .i64 also] rfl (fun _ => Sl.of_owns h2) rfl (by intro u hu; simp at hu; rw [hu]; rfl) (by have := H2.out; unfold maxLen; omega) (by have := H2.out; omega) (HXB.out U hb) (fun sa cap e h hm size2 k Y hg => good_set HG.out hg) ?_
        intro v' W' k1 k2 k3
        exact ⟨k1, k3⟩
      intro v Wj hv
      obtain ⟨s32, c32, rfl, _⟩ := own_slice hv
      simp only [Act.put, List.setIfInBounds_toArray, List.set_cons_zero, List.set_cons_succ]
      refine SqS.sqw_postY rfl rfl ?_ ?_
      · intro U hb hf
        have h1 : U.ownsRow base 58 10 (.slice s26 (nl + 1) c26) (nl + 1) (F ++ X) := hf 26 51 (by kernel_rfl) rfl rfl (fun o h => by obtain rfl := Option.some.inj h; rfl)
        have h2 : U.ownsRow base 22 1 (.slice s32 (ns + 1) c32) (ns + 1) (G ++ [.int .i64 also]) := hf 32 57 (by kernel_rfl) rfl rfl (fun o h => by obtain rfl := Option.some.inj h; rfl)
        refine yields_call rfl (by kernel_rfl) rfl rfl ((HER'.out U s26 s32 c26 c32 (HXU.out U hb) (Sl.of_owns h1) (Sz.of (Sl.of_owns h2))).mono ?_)
        rintro e u1 ⟨rfl, h1⟩
        exact ⟨_, rfl, rfl, ExtR.of h1 (HXB.out U hb)⟩
      intro v Wj hv
      obtain rfl : v = .int .i64 E := hv
      simp only [Act.put, List.setIfInBounds_toArray, List.set_cons_zero, List.set_cons_succ]
      by_cases h0 : E = 0
      case neg =>
        have h0' : (E != 0) = true := by simpa using h0
        refine SqS.sqw_value (.bool true) rfl rfl (by intro U hU; go_simp) ?_
        simp only [Act.put, List.setIfInBounds_toArray, List.set_cons_zero, List.set_cons_succ]
        refine SqS.sqw_value (.bool true) rfl rfl (by intro U hU; go_simp) ?_
        simp only [Act.put, List.setIfInBounds_toArray, List.set_cons_zero, List.set_cons_succ]
        refine SqS.sqw_nil ?_
        intro w7 hb hf hf2
        have B7 := Lib.hid (HXU.out w7 hb)
        clear hb hf hf2
        go_wp2_with (fail)
        refine (lives_any w7).mono ?_
        rintro e w8 ⟨rfl, bz⟩
        go_wp2
        go_ret
        exact ⟨rfl, B7.out.trans (bz.mono B7.out.size)⟩
      subst h0
      refine SqS.sqw_value (.bool false) rfl rfl (by intro U hU; go_simp) ?_
      simp only [Act.put, List.setIfInBounds_toArray, List.set_cons_zero, List.set_cons_succ]
      refine SqS.sqw_value (.bool false) rfl rfl (by intro U hU; go_simp) ?_
      simp only [Act.put, List.setIfInBounds_toArray, List.set_cons_zero, List.set_cons_succ]
      refine SqS.sqw_nil ?_
      intro w7 hb hf hf2
      have B7 := Lib.hid (HXU.out w7 hb)
      obtain ⟨m, hwm, T1, n, C, e, T2, n2, C2, e2, T3, v1, v2, v3, hen, hC⟩ := more_vals HE.out.symm (by rw [← HNL.out]; exact H1.out) (by rw [← HNS.out]; exact H2.out)
      subst hwm
      have hf1 := find_any (m : Int) may st s t ca cb w7 (HL.out.below B7.out) (HM.out.below B7.out)
      have hx7 : Cells w7 w.heap.size 0 [.int .i64 xw, .int .i64 xp, .bool na, .slice sa da.length ya, .bool nb, .slice sb db.length yb, .bool nc, .slice sc dc.length yc, .bool nd, .slice sd dd.length yd] := by have := HXC.out w7 hb; rw [HXD.out] at this; exact this
      clear hb hf hf2
      rw [← HNL.out, ← HNS.out] at hf1
      have HV1 := Lib.hid v1
      have HV2 := Lib.hid v2
      have HV3 := Lib.hid v3
      have HEN := Lib.hid hen
      have HCL := Lib.hid hC
      have HF1 := Lib.hid hf1
      have HX7 := Lib.hid hx7
      clear v1 v2 v3 hen hC hf1 hx7 HP1 HP2' HER' HXU HXB HXC HINF HXO HXL HXD HW1 HB1 HBASE
      go_wp2_with (fail)
      refine HF1.out.mono ?_
      rintro e' w8 ⟨sA, fA, ss, fs, rfl, hLa, hSa, b8⟩
      rw [HV1.out] at hSa ⊢
      dsimp only at hSa ⊢
      obtain ⟨nC, hnC⟩ : ∃ nC, nC = C.length := ⟨_, rfl⟩
      rw [← hnC] at hSa ⊢
      have HNC := Lib.hid hnC
      obtain ⟨W8, hW8⟩ : ∃ W8, W8 = w8.alloc (.cells #[.slice ss nC fs] 29) := ⟨_, rfl⟩
      have c8 : Below w8.heap.size w8 W8 := by rw [hW8]; exact alloc_below _ _
      have k8 : Blk W8 w8.heap.size [.slice ss nC fs] 29 := by rw [hW8]; exact Blk.new w8 #[.slice ss nC fs] 29
      have d8 : Below w7.heap.size w7 W8 := b8.trans (c8.mono b8.size)
      have B8 := Lib.hid (B7.out.trans (d8.mono B7.out.size))
      have S8 := Lib.hid (hSa.below c8)
      have K8 := Lib.hid k8
      have hx8 : Cells W8 w.heap.size 0 [.int .i64 xw, .int .i64 xp, .bool na, .slice sa da.length ya, .bool nb, .slice sb db.length yb, .bool nc, .slice sc dc.length yc, .bool nd, .slice sd dd.length yd] := fun i u hi => (d8.cell (p := ⟨w.heap.size, 0 + i, none⟩) (World.block_lt_of_cell? _ _ (HX7.out i u hi))).trans (HX7.out i u hi)
      have HW8 := Lib.hid hW8
      obtain ⟨g8, hg8⟩ : ∃ g8, g8 = w8.heap.size := ⟨_, rfl⟩
      have HG8 := Lib.hid hg8
      rw [← hg8] at K8
      have z8 : W8.heap.size = w8.heap.size + 1 := by rw [HW8.out, alloc_size]
      obtain ⟨W9, hW9⟩ : ∃ W9, W9 = W8.alloc (.cells #[.int .i64 xw, .int .i64 xp, .bool na, .slice sa da.length ya, .bool nb, .slice sb db.length yb, .bool nc, .slice sc dc.length yc, .bool nd, .slice sd dd.length yd] 58) := ⟨_, rfl⟩
      have b9 : Below W8.heap.size W8 W9 := by rw [hW9]; exact alloc_below _ _
      have row9 : W9.ownsRow W8.heap.size 58 10 (.slice (some ⟨W8.heap.size, 0, none⟩) 1 1) 1 [.int .i64 xw, .int .i64 xp, .bool na, .slice sa da.length ya, .bool nb, .slice sb db.length yb, .bool nc, .slice sc dc.length yc, .bool nd, .slice sd dd.length yd] := by rw [hW9]; exact own_newS W8 #[.int .i64 xw, .int .i64 xp, .bool na, .slice sa da.length ya, .bool nb, .slice sb db.length yb, .bool nc, .slice sc dc.length yc, .bool nd, .slice sd dd.length yd] 58 1 10 W8.heap.size rfl (by decide) (Nat.le_refl _)
      have hs9 := HSF.out W9 (B8.out.trans (b9.mono B8.out.size))
      have hz9 : W8.heap.size ≤ W9.heap.size := b9.size
      have ROW9 := Lib.hid row9
      have HB9 := Lib.hid b9
      have HW9 := Lib.hid hW9
      rw [hW9, HW8.out, ← HW8.out, z8] at row9
      rw [HW8.out] at hx8 row9
      rw [hW9, HW8.out] at hs9
      rw [hW9, HW8.out] at hz9
      rw [alloc_size] at hz9
      have RV := Lib.hid row9
      have SV := Lib.hid hs9
      have ZV := Lib.hid hz9
      have Z8 := Lib.hid z8
      clear hnC hW8 c8 k8 d8 hSa hLa b8 hg8 HF1 HX7 z8 b9 row9 hs9 hW9 hz9
      go_wp2_with (first | refine wpList_load_agg [.int .i64 xw, .int .i64 xp, .bool na, .slice sa da.length ya, .bool nb, .slice sb db.length yb, .bool nc, .slice sc dc.length yc, .bool nd, .slice sd dd.length yd] hx8 rfl rfl rfl aggS infoS ?_ | refine wpList_append_sl rfl _ _ 23 rfl (w8.heap.size + 1) 58 _ 10 144 hTspl2 infoSpl' rfl (by decide) _ 1 [.int .i64 xw, .int .i64 xp, .bool na, .slice sa da.length ya, .bool nb, .slice sb db.length yb, .bool nc, .slice sc dc.length yc, .bool nd, .slice sd dd.length yd] rfl RV.out _ nl F rfl SV.out HFO.out (by have := H1.out; unfold maxLen; omega) (by have := H1.out; omega) ZV.out ?_)
      intro v10 w10 r10 gr10
      rw [← HW8.out, ← HW9.out, ← Z8.out] at gr10
      have b10 : Below W8.heap.size W8 w10 := grown_below HB9.out ROW9.out gr10 HB9.out.size
      obtain ⟨s10, c10, rfl, _⟩ := own_slice r10
      have B10 := Lib.hid (B8.out.trans (b10.mono B8.out.size))
      have S10 := Lib.hid (S8.out.below b10)
      have K10 := Lib.hid (K8.out.below b10 K8.out.lt)
      have hl10 : Sl w10 10 (.slice s10 (x0 :: may).length c10) (x0 :: may).length (flat (x0 :: may)) := by
        have e1 : (x0 :: may).length = 1 + nl := by rw [List.length_cons, HNL.out, Nat.add_comm]
        rw [e1, flat_cons, HX0.out, ← HFD.out]
        exact Sl.of_owns r10
      have HL10 := Lib.hid hl10
      obtain ⟨W11, hW11⟩ : ∃ W11, W11 = w10.alloc (.cells #[] 22) := ⟨_, rfl⟩
      have b11 : Below w10.heap.size w10 W11 := by rw [hW11]; exact alloc_below _ _
      have row11 : W11.ownsRow w10.heap.size 22 1 (.slice (some ⟨w10.heap.size, 0, none⟩) 0 0) 0 [] := by rw [hW11]; exact World.ownsRow_made (e := 22) (size := 1) w10 #[] 0 (Nat.le_refl _) (by decide) (by simp)
      have hs11 := HSG.out W11 (B10.out.trans (b11.mono B10.out.size))
      have hz11 := b11.size
      have ROW11 := Lib.hid row11
      have HB11 := Lib.hid b11
      have HW11 := Lib.hid hW11
      rw [hW11] at row11 hs11 hz11
      have RV11 := Lib.hid row11
      have SV11 := Lib.hid hs11
      have ZV11 := Lib.hid hz11
      clear r10 gr10 b10 hl10 b11 row11 hs11 hz11 hW11 hx8 RV SV ZV ROW9 HB9 HW9 Z8 HW8
      go_wp2_with (refine wpList_append_sz rfl _ _ 24 rfl w10.heap.size 22 (.int .i64 0) 8 hTsets infoSet8 rfl _ 0 [] rfl RV11.out t ns cb G rfl SV11.out HG.out HGO.out (by have := H2.out; unfold maxLen; omega) (by have := H2.out; omega) ZV11.out ?_)
      intro v12 w12 r12 gr12
      rw [← HW11.out] at gr12
      have b12 : Below w10.heap.size w10 w12 := grown_below HB11.out ROW11.out gr12 HB11.out.size
      have r12' : w12.ownsRow w10.heap.size 22 1 v12 ns G := by simpa using r12
      obtain ⟨s12, c12, rfl, _⟩ := own_slice r12'
      obtain ⟨W13, hW13⟩ : ∃ W13, W13 = w12.alloc (.cells #[.int .i64 also] 22) := ⟨_, rfl⟩
      have b13 : Below w12.heap.size w12 W13 := by rw [hW13]; exact alloc_below _ _
      have b1013 : Below w10.heap.size w10 W13 := b12.trans (b13.mono b12.size)
      have row13 := own_below r12' b13
      have hz13 := b1013.size
      have hs13 : Sl W13 1 (.slice (some ⟨w12.heap.size, 0, none⟩) 1 1) 1 [.int .i64 also] := by rw [hW13]; exact sl_new w12 #[.int .i64 also] 22 1 rfl (by decide)
      have ROW13 := Lib.hid row13
      have HB13 := Lib.hid b1013
      have HW13 := Lib.hid hW13
      rw [hW13] at row13 hs13 hz13
      have RV13 := Lib.hid row13
      have SV13 := Lib.hid hs13
      have ZV13 := Lib.hid hz13
      clear r12 r12' gr12 b12 b13 b1013 row13 hz13 hs13 hW13 RV11 SV11 ZV11 ROW11 HB11 HW11
      go_wp2_with (refine wpList_append_sl rfl _ _ 24 rfl w10.heap.size 22 (.int .i64 0) 1 8 hTsets infoSet8 rfl (by decide) _ ns G rfl RV13.out _ 1 [.int .i64 also] rfl SV13.out (by intro u hu; simp at hu; rw [hu]; rfl) (by have := H2.out; unfold maxLen; omega) (by have := H2.out; omega) ZV13.out ?_)
      intro v14 w14 r14 gr14
      rw [← HW13.out] at gr14
      have b14 : Below w10.heap.size w10 w14 := grown_below HB13.out ROW13.out gr14 HB13.out.size
      obtain ⟨s14, c14, rfl, _⟩ := own_slice r14
      have B14 := Lib.hid (B10.out.trans (b14.mono B10.out.size))
      have S14 := Lib.hid (S10.out.below b14)
      have K14 := Lib.hid (K10.out.below b14 K10.out.lt)
      have e1 : (x0 :: may).length = 1 + nl := by rw [List.length_cons, HNL.out, Nat.add_comm]
      have e2' : (st ++ [also]).length = ns + 1 := by rw [List.length_append, HNS.out]; rfl
      have hf2 := find_any (m : Int) (x0 :: may) (st ++ [also]) s10 s14 c10 c14 w14 ⟨HL10.out.below b14, fun z hz => by
        rcases List.mem_cons.1 hz with hz | hz
        · rw [hz]; exact HXA.out.below B14.out
        · exact (HL.out.at' z hz).below B14.out⟩ (by
        rw [e2']
        have e3 : intsI (st ++ [also]) = G ++ [.int .i64 also] := by unfold intsI; rw [List.map_append, HGD.out]; rfl
        rw [e3]
        exact Sz.of (Sl.of_owns r14))
      rw [e1, e2'] at hf2
      have HF2 := Lib.hid hf2
      clear r14 gr14 b14 hf2 e1 e2' HL10 S10 K10 RV13 SV13 ZV13 ROW13 HB13 HW13 B10
      go_wp2_with (fail)
      refine HF2.out.mono ?_
      rintro e' w15 ⟨sB, fB, ss2, fs2, rfl, hLa, hSa, b15⟩
      rw [HV2.out]
      dsimp only
      obtain ⟨W15, hW15⟩ : ∃ W15, W15 = w15.alloc (.cells #[.slice ss2 C2.length fs2] 29) := ⟨_, rfl⟩
      have c15 : Below w15.heap.size w15 W15 := by rw [hW15]; exact alloc_below _ _
      have d15 : Below w14.heap.size w14 W15 := b15.trans (c15.mono b15.size)
      have B15 := Lib.hid (B14.out.trans (d15.mono B14.out.size))
      have S15 := Lib.hid (S14.out.below d15)
      have K15 := Lib.hid (K14.out.below d15 K14.out.lt)
      have HW15 := Lib.hid hW15
      clear b15 c15 d15 hLa hSa hW15 HF2 B14 S14 K14
      have hns : (ns : Int) ≤ 60 := by have := H2.out; omega
      go_wp2
      rw [← HW15.out]
      clear HW15
      go_loopw [19, 20] (fun v c wr => ∃ k : Nat, k ≤ ns ∧ c = .int .i64 ((k : Int) - 1) ∧ wr.ownsRow W15.heap.size 22 1 v (ns - k) (intsI (st.drop k).reverse) ∧ Below W15.heap.size W15 wr) (fun _ c _ => ((vInt c) + 1).toNat)
      case atStart => exact ⟨ns, Nat.le_refl _, rfl, by rw [Nat.sub_self, List.drop_of_length_le (by rw [HNS.out]; exact Nat.le_refl _)]; exact World.ownsRow_nil _ _ _ _, Below.refl _ _⟩
      case round =>
        obtain ⟨k, hk, rfl, hrow, hbr⟩ := hrel
        obtain ⟨so, co, rfl, _⟩ := own_slice hrow
        cases k with
        | succ q =>
          have hq1 : q < st.length := by have := HNS.out; omega
          have e0 : ((q + 1 : Nat) : Int) - 1 = (q : Int) := by omega
          rw [e0]
          have hq0 : (0 ≤ (q : Int)) = True := eq_true (by omega)
          have hqn : (q : Int) < ns := by omega
          have hq60 : (q : Int) < 60 := by have := H2.out; omega
          obtain ⟨gt, ot, rfl, hta, htb, htc, htd⟩ := sl_at (HSG.out wr (B15.out.trans (hbr.mono B15.out.size)) (by omega)) (by omega)
          have hcell : wr.cell? ⟨gt, ot + q, none⟩ = some (.int .i64 st[q]) := by
            refine htc q _ ?_
            rw [HGD.out]; unfold intsI; rw [List.getElem?_map, List.getElem?_eq_getElem hq1]; rfl
          obtain ⟨y, hy⟩ : ∃ y, y = st[q] := ⟨_, rfl⟩
          have hnew : intsI (st.drop (q + 1)).reverse ++ [.int .i64 y] = intsI (st.drop q).reverse := by
            rw [List.drop_eq_getElem_cons hq1, List.reverse_cons, hy]; unfold intsI; rw [List.map_append]; rfl
          rw [← hy] at hcell
          obtain ⟨W16, hW16⟩ : ∃ W16, W16 = wr.alloc (.cells #[.int .i64 y] 22) := ⟨_, rfl⟩
          have b16 : Below wr.heap.size wr W16 := by rw [hW16]; exact alloc_below _ _
          have b1516 : Below W15.heap.size W15 W16 := hbr.trans (b16.mono hbr.size)
          have row16 := own_below hrow b16
          have hz16 := b1516.size
          have hs16 : Sl W16 1 (.slice (some ⟨wr.heap.size, 0, none⟩) 1 1) 1 [.int .i64 y] := by rw [hW16]; exact sl_new wr #[.int .i64 y] 22 1 rfl (by decide)
          have ROW16 := Lib.hid row16
          have HB16 := Lib.hid b1516
          have HW16 := Lib.hid hW16
          rw [hW16] at row16 hs16 hz16
          have RV16 := Lib.hid row16
          have SV16 := Lib.hid hs16
          have ZV16 := Lib.hid hz16
          have HNEW := Lib.hid hnew
          clear hy hnew b16 b1516 row16 hz16 hs16 hW16 hrow hbr hta htb htc htd e0
          go_wp2_with (refine wpList_append_sl rfl _ _ 24 rfl W15.heap.size 22 (.int .i64 0) 1 8 hTsets infoSet8 rfl (by decide) _ (ns - (q + 1)) _ rfl RV16.out _ 1 [.int .i64 y] rfl SV16.out (by intro u hu; simp at hu; rw [hu]; rfl) (by have := H2.out; unfold maxLen; omega) (by have := H2.out; omega) ZV16.out ?_)
          intro v17 w17 r17 gr17
          rw [← HW16.out] at gr17
          have b17 : Below W15.heap.size W15 w17 := grown_below HB16.out ROW16.out gr17 HB16.out.size
          have r17' : w17.ownsRow W15.heap.size 22 1 v17 (ns - q) (intsI (st.drop q).reverse) := by
            rw [← HNEW.out, show ns - q = ns - (q + 1) + 1 by omega]; exact r17
          have R17 := Lib.hid r17'
          have B17 := Lib.hid b17
          clear r17 r17' gr17 b17 RV16 SV16 ZV16 ROW16 HB16 HW16 hcell
          go_wp2
          go_roundw
          case rel => exact ⟨q, by omega, rfl, R17.out, B17.out⟩
          case measure => simp [vInt]
        | zero =>
          have hsq := sequence_any may s ca wr ((HL.out.below (B15.out.trans (hbr.mono B15.out.size)))) (by have := H1.out; have := HNL.out; omega)
          rw [← HNL.out] at hsq
          have HSQ := Lib.hid hsq
          have B18 := Lib.hid (B15.out.trans (hbr.mono B15.out.size))
          have S18 := Lib.hid (S15.out.below hbr)
          have K18 := Lib.hid (K15.out.below hbr K15.out.lt)
          have R18 := Lib.hid hrow
          clear hsq hbr hrow S15 K15 B15
          go_wp2_with (fail)
          refine HSQ.out.mono ?_
          rintro e' w19 ⟨v19, rfl, r19, b19⟩
          obtain ⟨s19, c19, rfl, _⟩ := own_slice r19
          have B19 := Lib.hid (B18.out.trans (b19.mono B18.out.size))
          have S19 := Lib.hid (S18.out.below b19)
          have K19 := Lib.hid (K18.out.below b19 K18.out.lt)
          have e1 : may.reverse.length = nl := by rw [List.length_reverse]; exact HNL.out.symm
          have e2' : st.reverse.length = ns := by rw [List.length_reverse]; exact HNS.out.symm
          have hf3 := find_any (m : Int) may.reverse st.reverse s19 so c19 co w19 ⟨by rw [e1]; exact Sl.of_owns r19, fun z hz => (HL.out.at' z (List.mem_reverse.1 hz)).below B19.out⟩ (by
            rw [e2']
            have := Sl.of_owns (own_below R18.out b19)
            exact Sz.of (by simpa using this))
          rw [e1, e2'] at hf3
          have HF3 := Lib.hid hf3
          clear hf3 e1 e2' r19 b19 R18 S18 K18 B18 HSQ
          go_wp2_with (fail)
          refine HF3.out.mono ?_
          rintro e' w20 ⟨sD, fD, ss3, fs3, rfl, hLa, hSa, b20⟩
          rw [HV3.out] at hSa ⊢
          dsimp only at hSa ⊢
          rw [← HNC.out] at hSa ⊢
          obtain ⟨W20, hW20⟩ : ∃ W20, W20 = w20.alloc (.cells #[.slice ss3 nC fs3] 29) := ⟨_, rfl⟩
          have c20 : Below w20.heap.size w20 W20 := by rw [hW20]; exact alloc_below _ _
          have k20 : Blk W20 w20.heap.size [.slice ss3 nC fs3] 29 := by rw [hW20]; exact Blk.new w20 #[.slice ss3 nC fs3] 29
          have d20 : Below w19.heap.size w19 W20 := b20.trans (c20.mono b20.size)
          have B20 := Lib.hid (B19.out.trans (d20.mono B19.out.size))
          have S20 := Lib.hid (S19.out.below d20)
          have K20 := K19.out.below d20 K19.out.lt
          have T20 := Lib.hid (hSa.below c20)
          have f1 : W20.cell? ⟨g8, 0, none⟩ = some (.slice ss nC fs) := K20.cell rfl
          have f2 : W20.cell? ⟨w20.heap.size, 0, none⟩ = some (.slice ss3 nC fs3) := k20.cell rfl
          have hms : (C.map fun j : Nat => (j : Int)).length = nC := by rw [List.length_map]; exact HNC.out.symm
          have sq := sameSets_any (C.map fun j : Nat => (j : Int)) (C.map fun j : Nat => (j : Int)) ss ss3 fs fs3 W20 (by rw [hms, nts_map]; exact S20.out) (by rw [hms, nts_map]; exact T20.out) (by rw [hms]; have := HCL.out; have := HNC.out; omega)
          rw [hms, beq_self_eq_true] at sq
          have SQ := Lib.hid sq
          have HW20 := Lib.hid hW20
          rw [HG8.out] at f1
          rw [hW20] at f1 f2
          have hee : (e == e) = true := by simp
          have hnn : (n == n) = true := by simp
          clear c20 k20 d20 b20 hLa hSa sq hms K20 HF3 B19 S19 K19 S20 T20 hW20
          by_cases h0 : e = 0
          · obtain ⟨h2, h3⟩ := HEN.out h0
            subst h0
            subst h2
            have h3' : (n2 < n2) = False := eq_false (Int.lt_irrefl _)
            have h3'' : (n < n2) = False := eq_false (by omega)
            clear h3
            go_wp2_with (fail)
            rw [← HW20.out]
            refine SQ.out.mono ?_
            rintro e' w21 ⟨rfl, b21⟩
            have B21 := Lib.hid (B20.out.trans (b21.mono B20.out.size))
            clear b21 SQ HW20 f1 f2
            go_wp2_with (fail)
            refine (lives_any w21).mono ?_
            rintro e' w22 ⟨rfl, bz⟩
            go_wp2
            go_ret
            exact ⟨rfl, B21.out.trans (bz.mono B21.out.size)⟩
          · have h0' : (e == 0) = false := by simpa using h0
            clear h0
            go_wp2_with (fail)
            rw [← HW20.out]
            refine SQ.out.mono ?_
            rintro e' w21 ⟨rfl, b21⟩
            have B21 := Lib.hid (B20.out.trans (b21.mono B20.out.size))
            clear b21 SQ HW20 f1 f2
            go_wp2_with (fail)
            refine (lives_any w21).mono ?_
            rintro e' w22 ⟨rfl, bz⟩
            go_wp2
            go_ret
            exact ⟨rfl, B21.out.trans (bz.mono B21.out.size)⟩
end Go.Proofs.Ytnkinjilnccmfaa
