/- journal: steps in memory; a disk that was only worn. -/
import Derived.Test.YtbmnbdkbgpajeaaDoorZb23
import Derived.Test.YtbmnbdkbgpajeaaDoorZb04
import Derived.Deep.Slices
import Derived.SizedLaws
/- journal: steps in memory; a disk that was only worn. -/
section
namespace Go.Jn
open Go.Disk Go.Own Go.RowKit
structure Stm where
  kind : Int
  i : Int
  bit : Int
  size : Int
  fill : UInt8
  picks : List Int
  sp : Option Addr
  pc : Nat
def stcells (x : Stm) : List Value := [.int .i64 x.kind, .int .i64 x.i, .int .i64 x.bit, .int .i64 x.size, byv x.fill, .slice x.sp x.picks.length x.pc]
def Stm.text (x : Stm) : List UInt8 := textOf x.size x.fill
theorem Stm.text_len (x : Stm) : x.text.length ≤ 8100 := by
  unfold Stm.text
  rw [textOf_txt, txt_len]
  omega
/-- Steps in memory. -/
structure StAt (w : World) (v : Value) (l : List Stm) : Prop where
  sl : Sl w 6 v l.length (l.flatMap stcells)
  pk : ∀ x ∈ l, x.picks ≠ [] → Sl w 1 (.slice x.sp x.picks.length x.pc) x.picks.length (x.picks.map fun z => .int .i64 z)
  rng : ∀ x ∈ l, -9223372036854775808 ≤ x.i ∧ x.i ≤ 9223372036854775807
theorem StAt.below {w w' : World} {v : Value} {l : List Stm} (h : StAt w v l) (hb : Below w.heap.size w w') : StAt w' v l :=
  ⟨h.sl.below hb, fun x hx hne => (h.pk x hx hne).below hb, h.rng⟩
theorem stcells_at (l : List Stm) (k : Nat) (x : Stm) (hx : l[k]? = some x) : ((l.flatMap stcells).drop (k * 6)).take 6 = stcells x := by
  induction l generalizing k with
  | nil => simp at hx
  | cons y s ih =>
    have h5 : (stcells y).length = 6 := rfl
    cases k with
    | zero =>
      obtain rfl : y = x := by simpa using hx
      rw [List.flatMap_cons, Nat.zero_mul, List.drop_zero, ← h5, List.take_left]
    | succ k =>
      have := ih k (by simpa using hx)
      rw [List.flatMap_cons, show (k + 1) * 6 = (stcells y).length + k * 6 by rw [h5]; omega, List.drop_length_add_append]
      exact this
theorem StAt.cells {w : World} {v : Value} {l : List Stm} (h : StAt w v l) {k : Nat} {x : Stm} (hx : l[k]? = some x) : ∃ b off cap, v = .slice (some ⟨b, off, none⟩) l.length cap ∧ Cells w b (off + k * 6) (stcells x) ∧ b < w.heap.size := by
  have hk : k < l.length := (List.getElem?_eq_some_iff.1 hx).1
  obtain ⟨_, ⟨_, h0⟩ | ⟨b, off, cap, rfl, _, _, hC, hlt⟩⟩ := h.sl
  · omega
  · refine ⟨b, off, cap, rfl, ?_, hlt⟩
    have := hC.sub (k * 6) 6
    rw [stcells_at l k x hx] at this
    exact this
/-- A disk on which nothing was written. -/
structure Fr (d : DS) (n : Nat) : Prop where
  off : d.off = false
  left : d.left = -1
  len : d.s.length = n
  z : ∀ x ∈ d.s, x.t = Disk.zeros ∧ x.p = none
theorem mem_mod {α : Type} (f : α → α) : ∀ (l : List α) (i : Nat) (x : α), x ∈ l.modify i f → x ∈ l ∨ ∃ y ∈ l, x = f y
  | [], i, x, h => by simp at h
  | a :: l, 0, x, h => by
    rw [List.modify_zero_cons] at h
    rcases List.mem_cons.1 h with h | h
    · exact .inr ⟨a, List.mem_cons_self .., h⟩
    · exact .inl (List.mem_cons_of_mem _ h)
  | a :: l, i + 1, x, h => by
    rw [List.modify_succ_cons] at h
    rcases List.mem_cons.1 h with h | h
    · exact .inl (by rw [h]; exact List.mem_cons_self ..)
    · rcases mem_mod f l i x h with h | ⟨y, hy, h⟩
      · exact .inl (List.mem_cons_of_mem _ h)
      · exact .inr ⟨y, List.mem_cons_of_mem _ hy, h⟩
theorem Fr.fresh (n : Nat) : Fr (Disk.fresh n) n := ⟨rfl, rfl, by simp [Disk.fresh], fun x hx => by
  rw [List.eq_of_mem_replicate hx]; exact ⟨rfl, rfl⟩⟩
theorem Fr.wear {d : DS} {n : Nat} (h : Fr d n) (i : Int) : Fr (awear d i).2 n := by
  unfold awear
  split
  · refine ⟨h.off, h.left, by unfold upd; rw [List.length_modify]; exact h.len, fun x hx => ?_⟩
    rcases mem_mod _ _ _ _ hx with hx | ⟨y, hy, rfl⟩
    · exact h.z x hx
    · exact h.z y hy
  · exact h
theorem Fr.start {d : DS} {n : Nat} (h : Fr d n) : found (d.s.map cont) = ⟨[], [], 1, 0, false⟩ ∧ Inv d ⟨[], [], 1, 0, false⟩ [] d.s := by
  obtain ⟨_, h2, h3⟩ := Inv.start h.off h.left h.z
  refine ⟨?_, h3⟩
  unfold aopen at h2
  rw [h.off, if_neg Bool.false_ne_true] at h2
  exact Option.some.inj h2
end Go.Jn
namespace Go.Proofs.YtbmnbdkbgpajeaaDoor
open Go.RowKit Go.Own Go.Jn Go.Disk Go.BigFrame Go.Sha
theorem aggSt : (match Tryd.prog.underlying 46 with | some (.struct _) | some (.array _ _) => true | _ => false) = true := by kernel_rfl
theorem infoSt : (Tryd.prog.info? 46).map (·.size) = some 6 := by kernel_rfl
/-- A disk of the call's own. -/
structure Dk (w W : World) (f : Ft) (d : DS) : Prop where
  pd : PD W f d
  b : Below w.heap.size w W
  hf : ∀ x ∈ f.all, w.heap.size ≤ x
theorem Dk.below {w W W' : World} {f : Ft} {d : DS} (h : Dk w W f d) (hb : Below W.heap.size W W') : Dk w W' f d := ⟨h.pd.below hb, h.b.trans (hb.mono h.b.size), h.hf⟩
theorem Dk.wear {w W : World} {f : Ft} {d : DS} (h : Dk w W f d) (i : Int) : Calls Tryd.prog 14 #[.pointer (some ⟨f.p, 0, none⟩), .int .i64 i] W fun e w' => e = .returned (.int .i64 (awear d i).1) ∧ Dk w w' f (awear d i).2 := by
  refine (wear_any f d i W h.pd).mono ?_
  rintro e w' ⟨rfl, h2, h3⟩
  exact ⟨rfl, h2, h.b.trans (h3.below h.b.size h.hf), h.hf⟩
theorem rtext_st (x : Stm) (w : World) : Calls Tryd.prog 17 #[.agg (stcells x).toArray] w fun e w' => e = .returned (str x.text) ∧ Below w.heap.size w w' :=
  rtext_any w x.kind x.i x.bit x.size x.fill _
end Go.Proofs.YtbmnbdkbgpajeaaDoor
end
/- Arguments opened: slices of structs, nested slices of numbers. Any program. -/
section
namespace Go.Own
open Go.ChangeShapes Go.WideShapes Go.ChangeAt Go.RowKit Go.Deep
section
variable {H : Type} {enc : TypeId × Value → H} {P : Program} {W : World}
theorem mapM_cells {w : World} {a : Addr} : ∀ {n : Nat} {cs : List Value}, ((List.range n).mapM fun i => w.cell? (a.add i)) = some cs → cs.length = n ∧ ∀ i v, cs[i]? = some v → w.cell? (a.add i) = some v := by
  intro n cs h
  have h1 := mapM_some_length h
  rw [List.length_range] at h1
  refine ⟨h1, fun i v hi => ?_⟩
  have hlt : i < n := by have := (List.getElem?_eq_some_iff.1 hi).1; omega
  have := mapM_some_get h i i (by simp [hlt])
  rw [this, hi]
/-- A slice of structs: its cells, element by element, each of which reads. -/
theorem sl_of_structs {r : Reach} {b0 : Nat} {t e : TypeId} {s : Nat} {v : Value} {d : DataW H} {ps : List MemPlace} (ht : P.underlying t = some (.slice e)) (hc : P.cellsOf e = s)
    (hval : Value.okWide P W r b0 t v) (hd : DataW.Trod enc P W 0 (fun _ => true) true t v d ps) :
    ∃ L : List (List Value), Sl W s v L.length L.flatten ∧ L.length ≤ maxLen ∧ ∀ cs ∈ L, cs.length = s ∧ ∃ n y, DataW.trod enc P W 0 (fun _ => true) true n e cs = some y := by
  obtain ⟨fuel, hf⟩ := hd
  have hno : ∀ xs, v ≠ .agg xs := by
    intro xs hv; subst hv
    unfold Value.okWide at hval
    rw [ht] at hval
    have hv' : Cell.okWide P W r b0 t (.agg xs) := hval
    unfold Cell.okWide at hv'; rw [ht] at hv'
    have h2 : Cell.ok P W r b0 t (.agg xs) := hv'
    unfold Cell.ok at h2; rw [ht] at h2; exact h2
  rcases open_slice ht hf with ⟨hcs, _⟩ | ⟨a, len, cap, m, n, D, Pl, hcs, _, hl, hm, hmm, _, hx⟩
  · have hv : v = .slice none 0 0 := by
      cases v <;> simp [Value.cells] at hcs
      case slice => rw [hcs.1, hcs.2.1, hcs.2.2]
      case agg xs => exact absurd rfl (hno xs)
    exact ⟨[], ⟨by simp, .inl ⟨hv, rfl⟩⟩, Nat.zero_le _, by simp⟩
  · have hv : v = .slice (some a) len cap := by
      cases v <;> simp [Value.cells] at hcs
      case slice => rw [hcs.1, hcs.2.1, hcs.2.2]
      case agg xs => exact absurd rfl (hno xs)
    subst hv
    obtain ⟨h1, h2⟩ := slice_okW ht hval
    obtain ⟨b, off, sp⟩ := a
    obtain rfl : sp = none := h1
    simp only [if_true] at hmm
    subst hmm
    rw [hc] at hx
    have each : ∀ i, i < len → ∃ cs, cs.length = s ∧ (∃ n y, DataW.trod enc P W 0 (fun _ => true) true n e cs = some y) ∧ ∀ j u, cs[j]? = some u → W.cell? ⟨b, off + i * s + j, none⟩ = some u := fun i hi => by
      obtain ⟨cs, h3, h4⟩ := hx i (by omega)
      unfold World.cells? at h3
      rw [if_pos (Nat.zero_le _)] at h3
      obtain ⟨h5, h6⟩ := mapM_cells h3
      refine ⟨cs, h5, ⟨n, _, h4⟩, fun j u hj => ?_⟩
      have := h6 j u hj
      rwa [Addr.add_lit, Addr.add_lit] at this
    obtain ⟨F, hF⟩ := choose_lt each
    refine ⟨(List.range len).map F, ?_, by simp; omega, fun cs hcs => ?_⟩
    · have hfl : ∀ k, k ≤ len → (((List.range k).map F).flatten).length = k * s := fun k => by
        induction k with
        | zero => intro _; simp
        | succ k ih =>
          intro hk
          rw [List.range_succ, List.map_append, List.flatten_append, List.length_append, ih (by omega)]
          simp [(hF k (by omega)).1]
          rw [Nat.add_mul, Nat.one_mul]
      have hcell : ∀ k, k ≤ len → Cells W b off (((List.range k).map F).flatten) := fun k => by
        induction k with
        | zero => intro _ i u hi; simp at hi
        | succ k ih =>
          intro hk i u hi
          rw [List.range_succ, List.map_append, List.flatten_append] at hi
          by_cases hlt : i < k * s
          · rw [List.getElem?_append_left (by rw [hfl k (by omega)]; exact hlt)] at hi
            exact ih (by omega) i u hi
          · rw [List.getElem?_append_right (by rw [hfl k (by omega)]; omega), hfl k (by omega)] at hi
            simp at hi
            have := (hF k (by omega)).2.2 (i - k * s) u hi
            rwa [show off + k * s + (i - k * s) = off + i by omega] at this
      have hlen : ((List.range len).map F).length = len := by simp
      rw [hlen]
      exact ⟨hfl len (Nat.le_refl _), .inr ⟨b, off, m, rfl, by omega, hm, hcell len (Nat.le_refl _), h2⟩⟩
    · obtain ⟨i, hi, rfl⟩ := List.mem_map.1 hcs
      have hi' := List.mem_range.1 hi
      exact ⟨(hF i hi').1, (hF i hi').2.1⟩
theorem choose_map {α β : Type} {f : α → β} {p : α → Prop} : ∀ {L : List β}, (∀ c ∈ L, ∃ x, c = f x ∧ p x) → ∃ l : List α, L = l.map f ∧ ∀ x ∈ l, p x
  | [], _ => ⟨[], rfl, by simp⟩
  | c :: L, h => by
    obtain ⟨l, h1, h2⟩ := choose_map (L := L) fun c hc => h c (List.mem_cons_of_mem _ hc)
    obtain ⟨x, h3, h4⟩ := h c List.mem_cons_self
    refine ⟨x :: l, by rw [h1, h3]; rfl, ?_⟩
    rintro y hy
    rcases List.mem_cons.1 hy with rfl | hy
    · exact h4
    · exact h2 y hy
/-- A nested slice of numbers: where it is not empty, it reads. -/
theorem ints_of_cell {t e : TypeId} {k : IntKind} {fuel : Nat} {c : Value} {x : DataW H × List MemPlace} (ht : P.underlying t = some (.slice e)) (he : P.underlying e = some (.int k)) (hc : P.cellsOf e = 1)
    (h : DataW.trod enc P W 0 (fun _ => true) true fuel t [c] = some x) :
    ∃ (zs : List Int) (sa : Option Addr) (cap : Nat), c = .slice sa zs.length cap ∧ (zs ≠ [] → Sl W 1 c zs.length (zs.map (.int k))) ∧ zs.length ≤ maxLen ∧ ∀ z ∈ zs, (Lit.int k z).wf = true := by
  rcases open_ints ht he hc h with ⟨hcs, _⟩ | ⟨a, len, cap, zs, hcs, _, hl, hm, hz, _, hcell, hwz⟩
  · obtain rfl : c = .slice none 0 0 := by simpa using hcs
    exact ⟨[], none, 0, rfl, fun h => absurd rfl h, Nat.zero_le _, by simp⟩
  · obtain rfl : c = .slice (some a) len cap := by simpa using hcs
    simp only [if_true] at hz
    have hll : (zs.take len).length = len := by simp; omega
    refine ⟨zs.take len, some a, cap, by rw [hll], fun hne => ?_, by omega, fun z hz' => hwz z (List.mem_of_mem_take hz')⟩
    have hpos : 0 < len := by
      rcases Nat.eq_zero_or_pos len with h | h
      · subst h; simp at hne
      · exact h
    have h0 := hcell 0 (by omega)
    have ha0 : a.add 0 = a := by simp [Addr.add]
    rw [ha0] at h0
    obtain ⟨b, off, sp⟩ := a
    have hsp : sp = none := by
      unfold World.cell? at h0
      cases sp with
      | none => rfl
      | some s => simp at h0; split at h0 <;> cases h0
    subst hsp
    have hlt := World.block_lt_of_cell? _ _ h0
    refine ⟨by simp, .inr ⟨b, off, cap, by rw [hll], by omega, hm, fun i u hi => ?_, hlt⟩⟩
    have hil : i < len ∧ i < zs.length := by
      have := (List.getElem?_eq_some_iff.1 hi).1
      simp at this; omega
    have h3 := hcell i hil.2
    rw [add_plain] at h3
    rw [h3, ← hi]
    simp [hil.1, hil.2]
theorem int_of_cell {t : TypeId} {k : IntKind} {fuel : Nat} {c : Value} {x : DataW H × List MemPlace} (ht : P.underlying t = some (.int k)) (h : DataW.trod enc P W 0 (fun _ => true) true fuel t [c] = some x) : ∃ z, c = .int k z ∧ (Lit.int k z).wf = true := by
  obtain ⟨n, h1, _, h2⟩ := DataW.trod_int ht h
  exact ⟨n, by simpa using h1, h2⟩
theorem string_of_cell {t : TypeId} {fuel : Nat} {c : Value} {x : DataW H × List MemPlace} (ht : P.underlying t = some .string) (h : DataW.trod enc P W 0 (fun _ => true) true fuel t [c] = some x) : ∃ s : List UInt8, c = str s ∧ s.length ≤ maxLen := by
  obtain ⟨s, h1, _, h2⟩ := DataW.trod_string ht h
  obtain rfl : c = .string s := by simpa using h1
  exact ⟨s.data.toList, rfl, by rw [Array.length_toList]; exact h2⟩
theorem trod_struct5 {w : World} {base : Nat} {spare : Nat → Bool} {held : Bool} {t : TypeId} {f0 f1 f2 f3 f4 : Field} {fuel : Nat} {cs : List Value} {x : DataW H × List MemPlace} (ht : P.underlying t = some (.struct #[f0, f1, f2, f3, f4])) (h : DataW.trod enc P w base spare held fuel t cs = some x) :
    ∃ y0 y1 y2 y3 y4 n, DataW.trod enc P w base spare held n f0.type ((cs.drop f0.offset).take (P.cellsOf f0.type)) = some y0 ∧
      DataW.trod enc P w base spare held n f1.type ((cs.drop f1.offset).take (P.cellsOf f1.type)) = some y1 ∧ DataW.trod enc P w base spare held n f2.type ((cs.drop f2.offset).take (P.cellsOf f2.type)) = some y2 ∧
      DataW.trod enc P w base spare held n f3.type ((cs.drop f3.offset).take (P.cellsOf f3.type)) = some y3 ∧ DataW.trod enc P w base spare held n f4.type ((cs.drop f4.offset).take (P.cellsOf f4.type)) = some y4 := by
  obtain ⟨xs, n, _, rfl, hl, hlen, hf⟩ := DataW.trod_struct ht h
  match xs, hlen with
  | [y0, y1, y2, y3, y4], _ => exact ⟨y0, y1, y2, y3, y4, n, by simpa using hf 0 f0 rfl, by simpa using hf 1 f1 rfl, by simpa using hf 2 f2 rfl, by simpa using hf 3 f3 rfl, by simpa using hf 4 f4 rfl⟩
end
end Go.Own
end
/- journal: steps handed over, opened. -/
section
namespace Go.Proofs.YtbmnbdkbgpajeaaDoor
open Go.ChangeShapes Go.WideShapes Go.ChangeAt Go.RowKit Go.Own Go.Disk Go.Jn
theorem list6 {α : Type} {l : List α} (h : l.length = 6) : ∃ a b c d e f, l = [a, b, c, d, e, f] := by
  match l, h with
  | [a, b, c, d, e, f], _ => exact ⟨a, b, c, d, e, f, rfl⟩
theorem cellsInt : Tryd.prog.cellsOf 3 = 1 := by kernel_rfl
theorem cellsByte : Tryd.prog.cellsOf 5 = 1 := by kernel_rfl
theorem cellsInts : Tryd.prog.cellsOf 44 = 1 := by kernel_rfl
theorem cellsStp : Tryd.prog.cellsOf 46 = 6 := by kernel_rfl
section
variable {H : Type} {enc : TypeId × Value → H} {P : Program} {W : World}
theorem trod_struct6 {w : World} {base : Nat} {spare : Nat → Bool} {held : Bool} {t : TypeId} {f0 f1 f2 f3 f4 f5 : Field} {fuel : Nat} {cs : List Value} {x : DataW H × List MemPlace} (ht : P.underlying t = some (.struct #[f0, f1, f2, f3, f4, f5])) (h : DataW.trod enc P w base spare held fuel t cs = some x) :
    ∃ y0 y1 y2 y3 y4 y5 n, DataW.trod enc P w base spare held n f0.type ((cs.drop f0.offset).take (P.cellsOf f0.type)) = some y0 ∧
      DataW.trod enc P w base spare held n f1.type ((cs.drop f1.offset).take (P.cellsOf f1.type)) = some y1 ∧ DataW.trod enc P w base spare held n f2.type ((cs.drop f2.offset).take (P.cellsOf f2.type)) = some y2 ∧
      DataW.trod enc P w base spare held n f3.type ((cs.drop f3.offset).take (P.cellsOf f3.type)) = some y3 ∧ DataW.trod enc P w base spare held n f4.type ((cs.drop f4.offset).take (P.cellsOf f4.type)) = some y4 ∧
      DataW.trod enc P w base spare held n f5.type ((cs.drop f5.offset).take (P.cellsOf f5.type)) = some y5 := by
  obtain ⟨xs, n, _, rfl, hl, hlen, hf⟩ := DataW.trod_struct ht h
  match xs, hlen with
  | [y0, y1, y2, y3, y4, y5], _ => exact ⟨y0, y1, y2, y3, y4, y5, n, by simpa using hf 0 f0 rfl, by simpa using hf 1 f1 rfl, by simpa using hf 2 f2 rfl, by simpa using hf 3 f3 rfl, by simpa using hf 4 f4 rfl, by simpa using hf 5 f5 rfl⟩
end
section
variable {H : Type} {enc : TypeId × Value → H} {W : World}
set_option maxRecDepth 100000 in
theorem st_of_cells {fuel : Nat} {cs : List Value} {y : DataW H × List MemPlace} (hl : cs.length = 6) (h : DataW.trod enc Tryd.prog W 0 (fun _ => true) true fuel 46 cs = some y) :
    ∃ x : Stm, cs = stcells x ∧ (x.picks ≠ [] → Sl W 1 (.slice x.sp x.picks.length x.pc) x.picks.length (x.picks.map fun z => .int .i64 z)) ∧ (-9223372036854775808 ≤ x.i ∧ x.i ≤ 9223372036854775807) := by
  obtain ⟨c0, c1, c2, c3, c4, c5, rfl⟩ := list6 hl
  obtain ⟨y0, y1, y2, y3, y4, y5, n, h0, h1, h2, h3, h4, h5⟩ := trod_struct6 Tryd.underlying46 h
  dsimp only at h0 h1 h2 h3 h4 h5
  rw [cellsInt] at h0 h1 h2 h3
  rw [cellsByte] at h4
  rw [cellsInts] at h5
  simp only [List.drop_zero, List.drop_succ_cons, List.take_succ_cons, List.take_zero] at h0 h1 h2 h3 h4 h5
  obtain ⟨z0, rfl, w0⟩ := int_of_cell Tryd.underlying3 h0
  obtain ⟨z1, rfl, w1⟩ := int_of_cell Tryd.underlying3 h1
  obtain ⟨z2, rfl, w2⟩ := int_of_cell Tryd.underlying3 h2
  obtain ⟨z3, rfl, w3⟩ := int_of_cell Tryd.underlying3 h3
  obtain ⟨z4, rfl, w4⟩ := int_of_cell Tryd.underlying5 h4
  obtain ⟨m4, hm4⟩ := bytes_of_ints (zs := [z4]) (by intro z hz; simp at hz; subst hz; exact w4)
  obtain ⟨u4, rfl⟩ : ∃ u : UInt8, m4 = [u] := by
    match m4, hm4 with
    | [u], _ => exact ⟨u, rfl⟩
  obtain rfl : z4 = (u4.toNat : Int) := by simpa using hm4
  obtain ⟨zs, sa, cap, rfl, hS, _, _⟩ := ints_of_cell Tryd.underlying44 Tryd.underlying3 cellsInt h5
  refine ⟨⟨z0, z1, z2, z3, u4, zs, sa, cap⟩, rfl, hS, ?_⟩
  have := w1
  simp [Lit.wf, IntKind.min, IntKind.max, IntKind.signed, IntKind.bits] at this
  exact this
set_option maxRecDepth 100000 in
theorem st_of {b0 : Nat} {r : Reach} {v : Value} {d : DataW H} {ps : List MemPlace} (hval : Value.okWide Tryd.prog W r b0 35 v) (h : DataW.Trod enc Tryd.prog W 0 (fun _ => true) true 35 v d ps) :
    ∃ (l : List Stm) (sa : Option Addr) (cap : Nat), v = .slice sa l.length cap ∧ StAt W (.slice sa l.length cap) l := by
  obtain ⟨L, h1, h2, h3⟩ := sl_of_structs Tryd.underlying35 cellsStp hval h
  obtain ⟨l, rfl, hl⟩ := choose_map (f := stcells) (p := fun x => (x.picks ≠ [] → Sl W 1 (.slice x.sp x.picks.length x.pc) x.picks.length (x.picks.map fun z => .int .i64 z)) ∧ (-9223372036854775808 ≤ x.i ∧ x.i ≤ 9223372036854775807)) (L := L) fun cs hcs => by
    obtain ⟨hl, n, y, hy⟩ := h3 cs hcs
    exact st_of_cells hl hy
  rw [List.length_map] at h1
  obtain ⟨sa, cap, rfl, _⟩ := sl_slice h1
  exact ⟨l, sa, cap, rfl, h1, fun x hx => (hl x hx).1, fun x hx => (hl x hx).2⟩
end
end Go.Proofs.YtbmnbdkbgpajeaaDoor
end
