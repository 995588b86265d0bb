/- top: within a call of the closure of Best. -/
import Derived.Test.YtkccmpikeekceaaGreatTQ10
/- top: within a call of the closure of Best. -/
section
namespace Go.Top
theorem mask_snoc (l : List Nat) (x : Nat) : maskL (l ++ [x]) = maskL l ||| 2 ^ x := by
  apply Nat.eq_of_testBit_eq
  intro i
  rw [mask_bit, Nat.testBit_or, mask_bit, Nat.testBit_two_pow]
  by_cases h : i ∈ l
  · simp [h]
  · by_cases e : x = i
    · subst e; simp
    · simp [h, e]
      exact fun h => e h.symm
def elsTo (S i : Nat) : List Nat := (List.range i).filter fun j => S.testBit j
theorem elsTo_succ (S i : Nat) : elsTo S (i + 1) = elsTo S i ++ if S.testBit i then [i] else [] := by
  unfold elsTo
  rw [List.range_succ, List.filter_append]
  cases h : S.testBit i <;> simp [List.filter, h]
theorem elsTo_len (S i : Nat) : (elsTo S i).length ≤ i := by
  unfold elsTo
  have := List.length_filter_le (fun j => S.testBit j) (List.range i)
  rwa [List.length_range] at this
end Go.Top
namespace Go.Proofs.YtkccmpikeekceaaGreat
open Go.RowKit Go.Own Go.Theory Go.BigFrame Go.Shelf Go.Top
theorem chg_oth_new {F : List Nat} {g : Nat} {w w' w'' : World} (h : Chg F w w') (ho : Oth g w' w'') (hg : w.heap.size ≤ g) : Chg F w w'' :=
  ⟨(Chg.of_oth ho (F := [g]) (by simp)).os.trans h.os, (Chg.of_oth ho (F := [g]) (by simp)).tape.trans h.tape, (Chg.of_oth ho (F := [g]) (by simp)).output.trans h.output, by rw [ho.size]; exact h.size, fun k hk hn => by
    rw [ho.block k (by omega)]; exact h.block k hk hn⟩
/-- What is the better one so far, in memory. -/
def OutV (u : World) (x : Option (Tr × Nat)) (o1 : Value) (o2 : Int) : Prop := match x with
  | none => o1 = .pointer none ∧ o2 = -1
  | some (t, c) => ∃ b, o1 = nd b ∧ o2 = (c : Int) ∧ TrAt tT u (nd b) t
/-- Within a call. B: the block of the better one; gl, ol: where the row of the worlds lies. -/
structure BdJ (V w : World) (ws cs : List Nat) (gw gc K gk gb B gl ol : Nat) (l : List Nat) (x : Option (Tr × Nat)) (o1 : Value) (o2 : Int) (u : World) : Prop where
  w0 : BdW V w ws cs gw gc K gk gb
  bw : BdW V u ws cs gw gc K gk gb
  ext : ExtK K ws cs w u
  r : Blk u w.heap.size [.pointer none, .int .i64 0] tP
  b : Blk u B [o1, .int .i64 o2] tP
  row : Cells u gl ol (nvs l)
  rlt : gl < B
  rge : w.heap.size < gl
  o : OutV u x o1 o2
section
variable {V w : World} {ws cs : List Nat} {sa : Option Addr} {ca : Nat} {sb : Option Addr} {cb gw gc K gk gb B gl ol : Nat} {l : List Nat} {x : Option (Tr × Nat)} {o1 : Value} {o2 : Int} {u u' : World}
theorem BdJ.kw (h : BdJ V w ws cs gw gc K gk gb B gl ol l x o1 o2 u) : K < w.heap.size ∧ gk < w.heap.size ∧ gb < w.heap.size := by
  have k1 := World.block_lt_of_cell? _ _ h.w0.ck
  have k2 := World.block_lt_of_cell? _ _ h.w0.cb
  exact ⟨h.w0.kn.lt, k1, k2⟩
theorem OutV.tr (hx : ∀ v t, TrAt tT u v t → TrAt tT u' v t) (h : OutV u x o1 o2) : OutV u' x o1 o2 := by
  unfold OutV at h ⊢
  cases x with
  | none => exact h
  | some p => obtain ⟨b, h1, h2, h3⟩ := h; exact ⟨b, h1, h2, hx _ _ h3⟩
theorem BdJ.step (S : BdS V ws cs sa ca sb cb gw gc K gk gb) (h : BdJ V w ws cs gw gc K gk gb B gl ol l x o1 o2 u) (hx : ExtK K ws cs u u') : BdJ V w ws cs gw gc K gk gb B gl ol l x o1 o2 u' := by
  obtain ⟨k1, k2, k3⟩ := h.kw
  have hB := h.b.lt
  have := h.rlt
  have := h.rge
  exact ⟨h.w0, h.bw.ext S hx, h.ext.trans _ _ _ _ _ _ hx, h.r.chg hx.chg (by simp; omega), h.b.chg hx.chg (by simp; omega), h.row.chg hx.chg (by omega) (by simp; omega), h.rlt, h.rge, h.o.tr fun v t ht => hx.tr h.bw.kn ht⟩
theorem BdJ.low (S : BdS V ws cs sa ca sb cb gw gc K gk gb) (h : BdJ V w ws cs gw gc K gk gb B gl ol l x o1 o2 u) (hx : Below u.heap.size u u') : BdJ V w ws cs gw gc K gk gb B gl ol l x o1 o2 u' := h.step S (ExtK.of hx)
theorem BdJ.wr {g : Nat} (h : BdJ V w ws cs gw gc K gk gb B gl ol l x o1 o2 u) (hg : w.heap.size ≤ g) {l' : List Value} {t' : TypeId} (hB : Blk u g l' t') (hl : l'.length = 2) (ho : Oth g u u') : BdW V u' ws cs gw gc K gk gb ∧ ExtK K ws cs w u' := by
  obtain ⟨k1, k2, k3⟩ := h.kw
  have c : Chg [g] u u' := Chg.of_oth ho (by simp)
  have k4 := h.w0.below.size
  refine ⟨⟨h.bw.below.trans (c.below h.bw.below.size (by simp; omega)), chg_cell c h.bw.ck (by simp; omega), chg_cell c h.bw.cb (by simp; omega), h.bw.kn.oth hB hl ho⟩, ⟨chg_oth_new h.ext.chg ho hg, fun _ => h.bw.kn.oth hB hl ho⟩⟩
theorem BdJ.oth {g : Nat} (h : BdJ V w ws cs gw gc K gk gb B gl ol l x o1 o2 u) (hg : B < g) {l' : List Value} {t' : TypeId} (hB : Blk u g l' t') (hl : l'.length = 2) (ho : Oth g u u') : BdJ V w ws cs gw gc K gk gb B gl ol l x o1 o2 u' := by
  have c : Chg [g] u u' := Chg.of_oth ho (by simp)
  have h1 := h.rlt
  have h2 := h.rge
  have hb := h.b.lt
  obtain ⟨q1, q2⟩ := h.wr (by omega) hB hl ho
  exact ⟨h.w0, q1, q2, h.r.chg c (by simp; omega), h.b.chg c (by simp; omega), h.row.chg c (by omega) (by simp; omega), h1, h2, h.o.tr fun v t ht => tr_oth hB hl ho ht⟩
theorem BdJ.set {x' : Option (Tr × Nat)} {p1 : Value} {p2 : Int} (h : BdJ V w ws cs gw gc K gk gb B gl ol l x o1 o2 u) (ho : Oth B u u') (hB : Blk u' B [p1, .int .i64 p2] tP) (hO : OutV u x' p1 p2) : BdJ V w ws cs gw gc K gk gb B gl ol l x' p1 p2 u' := by
  have c : Chg [B] u u' := Chg.of_oth ho (by simp)
  have h1 := h.rlt
  have h2 := h.rge
  have hb := h.b.lt
  obtain ⟨q1, q2⟩ := h.wr (by omega) h.b rfl ho
  exact ⟨h.w0, q1, q2, h.r.chg c (by simp; omega), hB, h.row.chg c (by omega) (by simp; omega), h1, h2, hO.tr fun v t ht => tr_oth h.b rfl ho ht⟩
/-- The result's box is written last. -/
theorem BdJ.fin (h : BdJ V w ws cs gw gc K gk gb B gl ol l x o1 o2 u) (ho : Oth w.heap.size u u') : BdW V u' ws cs gw gc K gk gb ∧ ExtK K ws cs w u' ∧ OutV u' x o1 o2 := by
  obtain ⟨q1, q2⟩ := h.wr (Nat.le_refl _) h.r rfl ho
  exact ⟨q1, q2, h.o.tr fun v t ht => tr_oth h.r rfl ho ht⟩
end
end Go.Proofs.YtkccmpikeekceaaGreat
end
