/- order: the program's closure that builds a set, any; an append that says where its row lies; the splits of each set, so far. -/
import Derived.Test.YtnkinjilnccmfaaQ22
import Derived.Deep.DeepAppendRoom
namespace Go.Own
open Go.RowKit
theorem Chg.grown {F : List Nat} {X w w' : World} {row : Option Nat} (h : Chg F X w) (hg : w.grownBy w' row) (hr : ∀ b, row = some b → X.heap.size ≤ b) : Chg F X w' :=
  ⟨hg.os.trans h.os, hg.tape.trans h.tape, hg.output.trans h.output, Nat.le_trans h.size hg.size, fun k hk hn => (hg.block k (Nat.lt_of_lt_of_le hk h.size) (fun e => by have := hr k e.symm; omega)).trans (h.block k hk hn)⟩
theorem IMap.grown {w w' : World} {b : Nat} {m : List (Int × Value)} {row : Option Nat} (h : IMap w b m) (hg : w.grownBy w' row) (hb : some b ≠ row) : IMap w' b m := h.same (hg.block b h.lt hb)
theorem own_grown {w w' : World} {base size n : Nat} {e : TypeId} {v : Value} {xs : List Value} {row : Option Nat} (h : w.ownsRow base e size v n xs) (hg : w.grownBy w' row) (hr : ∀ b, v.ownBlock = some b → some b ≠ row) : w'.ownsRow base e size v n xs := by
  refine ⟨h.1, ?_⟩
  rcases h.2 with hn | ⟨g, cap, cur, rfl, hb, hgg, rest⟩
  · exact .inl hn
  · have hlt : g < w.heap.size := by
      rcases Nat.lt_or_ge g w.heap.size with h8 | h8
      · exact h8
      · rw [Array.getElem?_eq_none h8] at hgg; cases hgg
    exact .inr ⟨g, cap, cur, rfl, hb, (hg.block g hlt (hr g rfl)).trans hgg, rest⟩
/-- 'append(s, x...)', and where the row lies. -/
theorem run_append_where {P : Program} (w : World) (base : Nat) (t ty e : TypeId) (i : TypeInfo) (z : Value) (size bytes : Nat) (ht : P.underlying t = some (.slice e)) (hi : P.info? e = some i) (hz : i.zero = some z)
    (hsize : i.size = size) (hby : i.bytes = bytes) (hzs : z.cells.size = size) (hsz : 0 < size)
    (v : Value) (n : Nat) (xs : List Value) (hown : w.ownsRow base e size v n xs)
    (a : Addr) (m c : Nat) (news : List Value) (hl : news.length = m * size) (hnews : ∀ j u, news[j]? = some u → w.cell? (a.add j) = some u) (h1 : ∀ u ∈ news, u.oneCell' = true)
    (h63 : n + m ≤ maxLen) (hbytes : (n + m) * bytes ≤ 140737488355328) (hbase : base ≤ w.heap.size) :
    ∃ v' w', (Builtin.append_ #[t, t] ty #[v, .slice (some a) m c]).run P w = .ok v' w' ∧ w'.ownsRow base e size v' (n + m) (xs ++ news) ∧ w.grownBy w' v.ownBlock ∧
      (∀ b, v'.ownBlock = some b → v.ownBlock = some b ∨ w.heap.size ≤ b) := by
  obtain ⟨v', w', hr, h2, h3, _⟩ := run_append_own w base t ty e i z size bytes ht hi hz hsize hby hzs hsz v n xs hown a m c news hl hnews h1 h63 hbytes hbase
  refine ⟨v', w', hr, h2, h3, fun b hb => ?_⟩
  rcases hown.2 with ⟨rfl, rfl⟩ | ⟨g, cap, cur, rfl, hbg, hg, hnc, hcm, hcs, htake⟩
  · have hx : xs = [] := List.eq_nil_of_length_eq_zero (by simpa using hown.1)
    subst hx
    obtain ⟨v2, w2, hr2, h4, _, _⟩ := run_append_own w w.heap.size t ty e i z size bytes ht hi hz hsize hby hzs hsz _ 0 [] (World.ownsRow_nil w w.heap.size e size) a m c news hl hnews h1 h63 hbytes (Nat.le_refl _)
    rw [hr] at hr2
    injection hr2 with e1 e2
    subst e1 e2
    obtain ⟨_, _, _, hge⟩ := own_slice h4
    exact .inr (hge b hb)
  · by_cases hroom : n + m ≤ cap
    · obtain ⟨w2, hr2, _, _⟩ := run_append_own_spare w base t ty e i size ht hi hsize g n cap xs hown a m c news hl hnews h1 hroom
      rw [hr] at hr2
      injection hr2 with e1 e2
      subst e1
      exact .inl hb
    · subst hsize
      subst hby
      have hsmall : n + m ≤ 9223372036854775807 := by simp only [maxLen] at h63; omega
      have holds : ∀ j u, xs[j]? = some u → w.cell? ((⟨g, 0, none⟩ : Addr).add j) = some u := hown.cells (g := g) rfl
      have hr2 := run_append_grow (P := P) w t ty e i z ht hi hz ⟨g, 0, none⟩ n cap xs hown.1 holds a m c news hl hnews (by omega) (by omega) (growslice_fits (by omega) hbytes)
      rw [hr] at hr2
      injection hr2 with e1 e2
      subst e1
      cases hb
      exact .inr (Nat.le_refl _)
theorem wpList_append_where {P : Program} {w : World} {ops : Array Oper} {rest : List Oper} {o : Oper} {a : Act} {Q : Exit → Act → World → Prop} (hgd : o.guard = none) (s x : Operand) (t : TypeId)
    (ho : o.op = .call { callee := .builtin .append, args := #[s, x], argTypes := #[t, t] })
    (base : Nat) (e : TypeId) (z : Value) (size bytes : Nat) (ht : P.underlying t = some (.slice e)) (hi : (P.info? e).map (fun i => (i.zero, i.size, i.bytes)) = some (some z, size, bytes))
    (hzs : z.cells.size = size) (hsz : 0 < size)
    (v : Value) (n : Nat) (xs : List Value) (hs : a.eval s = v) (hown : w.ownsRow base e size v n xs)
    (ad : Addr) (m c : Nat) (news : List Value) (hx : a.eval x = .slice (some ad) m c) (hl : news.length = m * size) (hnews : ∀ j u, news[j]? = some u → w.cell? (ad.add j) = some u) (h1 : ∀ u ∈ news, u.oneCell' = true)
    (h63 : n + m ≤ maxLen) (hbytes : (n + m) * bytes ≤ 140737488355328) (hbase : base ≤ w.heap.size)
    (h : ∀ v' w', w'.ownsRow base e size v' (n + m) (xs ++ news) → w.grownBy w' v.ownBlock → (∀ b, v'.ownBlock = some b → v.ownBlock = some b ∨ w.heap.size ≤ b) → wpList P ops Q rest (a.put o.dst v') w') : wpList P ops Q (o :: rest) a w := by
  obtain ⟨i, hi1, hi2, hi3, hi4⟩ := info_parts hi
  refine wpList_plain hgd fun _ hK => ?_
  obtain ⟨v', w', hr, h2, h3, h4⟩ := run_append_where (P := P) w base t o.type e i z size bytes ht hi1 hi2 hi3 hi4 hzs hsz v n xs hown ad m c news hl hnews h1 h63 hbytes hbase
  unfold Oper.wp execOp
  simp only [ho, resolve, invoke, builtin, Sem.run_bind, Sem.run_pure, Result.andThen_ok, List.map_toArray, List.map_cons, List.map_nil, hs, hx, hr]
  exact hK _ _ (h v' w' h2 h3 h4)
end Go.Own
namespace Go.Order
open Go.RowKit Go.Own Go.Proofs.Ytnkinjilnccmfaa
def idxN (may : List Spl) (s : Int) (i : Nat) : List Nat := (List.range i).filter fun j => decide (wAt may j = s)
theorem idxN_zero (may : List Spl) (s : Int) : idxN may s 0 = [] := rfl
theorem idxN_all (may : List Spl) (s : Int) : idxN may s may.length = idx may s := rfl
theorem idxN_hit {may : List Spl} {s : Int} {i : Nat} (h : wAt may i = s) : idxN may s (i + 1) = idxN may s i ++ [i] := by
  unfold idxN; rw [List.range_succ, List.filter_append]; simp [h]
theorem idxN_miss {may : List Spl} {s : Int} {i : Nat} (h : wAt may i ≠ s) : idxN may s (i + 1) = idxN may s i := by
  unfold idxN; rw [List.range_succ, List.filter_append]; simp [h]
theorem idxN_len (may : List Spl) (s : Int) (i : Nat) : (idxN may s i).length ≤ i := by
  unfold idxN
  have := List.length_filter_le (fun j => decide (wAt may j = s)) (List.range i)
  rwa [List.length_range] at this
end Go.Order
namespace Go.Proofs.Ytnkinjilnccmfaa
open Go.RowKit Go.Own Go.BigFrame Go.Big Go.Order
theorem build_any {V : World} {may : List Spl} {st : List Int} {s : Option Addr} {ca gf go gm F O K gk gb : Nat} (S : BdS V may st s ca gf go gm F O K gk gb) :
    ∀ (m : Nat), m < 65536 → ∀ (w : World), BdW V w may st gf go gm K gk gb →
    Calls Try.prog 64 #[.int .i64 (m : Int), .pointer (some ⟨gk, 0, none⟩), .pointer (some ⟨gf, 0, none⟩), .pointer (some ⟨go, 0, none⟩), .pointer (some ⟨gb, 0, none⟩), .pointer (some ⟨gm, 0, none⟩)] w fun e w' => BdQ V may st gf go gm K gk gb m w e w' := by
  intro m
  induction m using Nat.strongRecOn with
  | _ m ih =>
    intro hm w hw
    obtain ⟨f, hf, hfp⟩ := hw.kn
    cases hv : f (m : Int) with
    | some v =>
      obtain ⟨n, hn, e1, e2⟩ := hfp _ _ hv
      have : n = m := by omega
      subst this
      subst e2
      exact build_met S n w hw f hf hv
    | none => exact build_new S m hm (fun m' h u hu => ih m' h (by omega) u hu) w hw f hf hv
/-- the splits of each set among the first i -/
structure OfI (X w : World) (O : Nat) (may : List Spl) (i : Nat) (f : Int → Option Value) : Prop where
  map : MapV w O f
  row : ∀ k : Int, w.ownsRow X.heap.size 3 1 ((f k).getD (.slice none 0 0)) (idxN may k i).length (nts (idxN may k i))
  apart : ∀ (k k' : Int) (b : Nat), k ≠ k' → ((f k).getD (.slice none 0 0)).ownBlock = some b → ((f k').getD (.slice none 0 0)).ownBlock ≠ some b
theorem OfI.start {X w : World} {O : Nat} (may : List Spl) (h : MapV w O fun _ => none) : OfI X w O may 0 fun _ => none :=
  ⟨h, fun k => World.ownsRow_nil _ _ _ _, fun k k' b _ h => by cases h⟩
theorem OfI.below {X w w' : World} {O : Nat} {may : List Spl} {i : Nat} {f : Int → Option Value} (h : OfI X w O may i f) (hb : Below w.heap.size w w') : OfI X w' O may i f :=
  ⟨h.map.below hb, fun k => own_below (h.row k) hb, h.apart⟩
theorem OfI.of {X w : World} {O : Nat} {may : List Spl} {f : Int → Option Value} (h : OfI X w O may may.length f) : OfM w O may :=
  ⟨f, h.map, fun k => by
    obtain ⟨sa, cap, e, _⟩ := own_slice (h.row k)
    refine ⟨sa, cap, e, ?_⟩
    have h1 := Sl.of_owns (h.row k)
    rw [e] at h1
    exact h1⟩
/-- one more split -/
theorem OfI.step {X w w1 w2 : World} {O : Nat} {may : List Spl} {i : Nat} {f : Int → Option Value} {m : List (Int × Value)} {v' : Value} (h : OfI X w O may i f) (hO : O < X.heap.size)
    (hm : ∀ k, mget m k = f k)
    (h1 : w1.ownsRow X.heap.size 3 1 v' ((idxN may (wAt may i) i).length + 1) (nts (idxN may (wAt may i) i) ++ [.int .i64 (i : Int)]))
    (h2 : w.grownBy w1 ((f (wAt may i)).getD (.slice none 0 0)).ownBlock)
    (h3 : ∀ b, v'.ownBlock = some b → ((f (wAt may i)).getD (.slice none 0 0)).ownBlock = some b ∨ w.heap.size ≤ b)
    (h4 : IMap w2 O (mset m (wAt may i) v')) (h5 : Chg [O] w1 w2) : OfI X w2 O may (i + 1) fun k => if k = wAt may i then some v' else f k := by
  have hge : ∀ k b, ((f k).getD (.slice none 0 0)).ownBlock = some b → X.heap.size ≤ b := fun k b hb => by
    obtain ⟨_, _, _, h6⟩ := own_slice (h.row k); exact h6 b hb
  have hge' : ∀ b, v'.ownBlock = some b → X.heap.size ≤ b := fun b hb => by obtain ⟨_, _, _, h6⟩ := own_slice h1; exact h6 b hb
  have hlt : ∀ k b, ((f k).getD (.slice none 0 0)).ownBlock = some b → b < w.heap.size := fun k b hb => by
    rcases (h.row k).2 with ⟨h6, _⟩ | ⟨g, cap, cur, h6, _, h7, _⟩
    · rw [h6] at hb; cases hb
    · rw [h6] at hb
      cases hb
      rcases Nat.lt_or_ge g w.heap.size with h8 | h8
      · exact h8
      · rw [Array.getElem?_eq_none h8] at h7; cases h7
  refine ⟨(MapV.set hm h4), fun k => ?_, fun k k' b hk hb => ?_⟩
  · by_cases hk : k = wAt may i
    · subst hk
      rw [if_pos rfl, Option.getD_some, idxN_hit rfl]
      have := own_chg h1 h5 (fun b hb => by have := hge' b hb; simp; omega)
      rw [List.length_append]
      simpa [nts] using this
    · rw [if_neg hk, idxN_miss (fun e => hk e.symm)]
      refine own_chg ?_ h5 (fun b hb => by have := hge k b hb; simp; omega)
      refine own_grown (h.row k) h2 fun b hb e => ?_
      exact h.apart _ _ b hk hb e.symm
  · by_cases hk1 : k = wAt may i
    · rw [if_pos hk1, Option.getD_some] at hb
      rw [if_neg (fun e => hk (by rw [hk1, e]))]
      intro hb'
      rcases h3 b hb with h6 | h6
      · exact h.apart _ _ b (by rw [← hk1]; exact hk) h6 hb'
      · have := hlt _ b hb'; omega
    · rw [if_neg hk1] at hb
      by_cases hk2 : k' = wAt may i
      · rw [if_pos hk2, Option.getD_some]
        intro hb'
        rcases h3 b hb' with h6 | h6
        · exact h.apart _ _ b hk1 hb h6
        · have := hlt _ b hb; omega
      · rw [if_neg hk2]
        exact h.apart _ _ b hk hb
end Go.Proofs.Ytnkinjilnccmfaa
