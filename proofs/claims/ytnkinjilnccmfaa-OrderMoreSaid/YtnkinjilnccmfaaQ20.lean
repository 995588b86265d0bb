/- order: what a builder knows, in memory and in plain Lean. -/
import Derived.Test.YtnkinjilnccmfaaQ19
namespace Go.Order
open Go.RowKit Go.Own Go.Proofs.Ytnkinjilnccmfaa Go.Theory
def nps (may : List Spl) : List (Nat × Nat) := may.map fun x => (x.w.toNat, x.p.toNat)
def fmN (st : List Int) (n : Nat) : Bool := hasB st (n : Int)
/-- how a set is built: by which split, and the sum -/
def bb (may : List Spl) (st : List Int) (s : Nat) : Int × Int := bst (nps may) (fmN st) s
def wAt (may : List Spl) (i : Nat) : Int := (may[i]?.map Spl.w).getD 0
/-- the splits of a set -/
def idx (may : List Spl) (s : Int) : List Nat := (List.range may.length).filter fun i => decide (wAt may i = s)
theorem nps_len (may : List Spl) : (nps may).length = may.length := by unfold nps; rw [List.length_map]
theorem wAt_eq {may : List Spl} {i : Nat} (h : i < may.length) : wAt may i = may[i].w := by unfold wAt; rw [List.getElem?_eq_getElem h]; rfl
theorem idx_len (may : List Spl) (s : Int) : (idx may s).length ≤ may.length := by
  unfold idx
  have := List.length_filter_le (fun i => decide (wAt may i = s)) (List.range may.length)
  rwa [List.length_range] at this
theorem idx_at {may : List Spl} {s : Int} {k : Nat} (h : k < (idx may s).length) : (idx may s)[k] < may.length ∧ wAt may (idx may s)[k] = s := by
  have := List.getElem_mem h
  unfold idx at this
  obtain ⟨h1, h2⟩ := List.mem_filter.1 this
  exact ⟨List.mem_range.1 h1, of_decide_eq_true h2⟩
theorem nps_ok {may : List Spl} (h : may.all Spl.ok = true) : ∀ x ∈ nps may, Ok x := by
  intro x hx
  obtain ⟨y, hy, rfl⟩ := List.mem_map.1 hx
  obtain ⟨w, p, h1, h2, o⟩ := y.ok_iff.1 (List.all_eq_true.1 h y hy)
  rw [h1, h2]
  exact o
/-- one split, as numbers -/
theorem nps_at {may : List Spl} (hok : may.all Spl.ok = true) {i : Nat} (h : i < may.length) {m : Nat} (hw : may[i].w = m) :
    ∃ p r : Nat, may[i].p = p ∧ may[i].rest = r ∧ p < m ∧ r < m ∧ m < 65536 ∧ (nps may).getD i (0, 0) = (m, p) ∧ rst ((nps may).getD i (0, 0)) = r ∧ cst ((nps may).getD i (0, 0)) = may[i].cost := by
  have hx := List.all_eq_true.1 hok may[i] (List.getElem_mem h)
  obtain ⟨w, p, h1, h2, o⟩ := may[i].ok_iff.1 hx
  have hwm : w = m := by omega
  subst hwm
  have a1 := o.pw
  have a2 := o.p1
  have a3 := o.w6
  dsimp only at a1 a2 a3
  have e3 : may[i].rest = ((w - p : Nat) : Int) := by unfold Spl.rest; rw [h1, h2]; exact rsti_nat a3 (by omega) o.sb
  have e4 : (nps may).getD i (0, 0) = (w, p) := by
    unfold nps
    rw [List.getD_eq_getElem?_getD, List.getElem?_map, List.getElem?_eq_getElem h]
    show (may[i].w.toNat, may[i].p.toNat) = _
    rw [h1, h2]; rfl
  refine ⟨p, w - p, h2, e3, by omega, by omega, a3, e4, by rw [e4]; rfl, ?_⟩
  rw [e4]
  unfold cst Spl.cost
  rw [h2, e3, siz_nat p (by omega), siz_nat (w - p) (by omega)]
  rfl
theorem foldl_skip {α β : Type} (f : β → α → β) (p : α → Bool) : ∀ (l : List α) (b : β), (∀ x ∈ l, p x = false → ∀ c, f c x = c) → (l.filter p).foldl f b = l.foldl f b
  | [], b, _ => rfl
  | x :: l, b, h => by
    have ih := foldl_skip f p l
    cases hp : p x with
    | true => rw [List.filter_cons_of_pos hp, List.foldl_cons, List.foldl_cons]; exact ih _ fun y hy => h y (List.mem_cons_of_mem _ hy)
    | false =>
      rw [List.filter_cons_of_neg (by rw [hp]; exact Bool.false_ne_true), List.foldl_cons, h x (List.mem_cons_self ..) hp]
      exact ih _ fun y hy => h y (List.mem_cons_of_mem _ hy)
def foldK (may : List Spl) (st : List Int) (s k : Nat) : Int × Int := ((idx may s).take k).foldl (add1 (bb may st) (nps may) s) (b0 s)
theorem foldK_succ {may : List Spl} {st : List Int} {s k : Nat} (h : k < (idx may s).length) : foldK may st s (k + 1) = add1 (bb may st) (nps may) s (foldK may st s k) (idx may s)[k] := by
  unfold foldK
  rw [List.take_succ_eq_append_getElem h, List.foldl_append]; rfl
theorem bb_firm {may : List Spl} {st : List Int} (hok : may.all Spl.ok = true) {s : Nat} (hs : s < 65536) (hf : hasB st (s : Int) = true) : bb may st s = foldK may st s (idx may s).length := by
  have e := bst_eq (firm := fmN st) (nps_ok hok) hs
  rw [if_pos (show fmN st s = true from hf)] at e
  unfold foldK
  rw [List.take_length]
  show bst (nps may) (fmN st) s = _
  rw [e]
  unfold addN
  rw [nps_len]
  refine (foldl_skip _ _ _ _ fun i hi hp c => ?_).symm
  have hi' := List.mem_range.1 hi
  unfold add1
  rw [if_neg]
  intro h
  have hx := List.all_eq_true.1 hok may[i] (List.getElem_mem hi')
  obtain ⟨w, p, h1, h2, o⟩ := may[i].ok_iff.1 hx
  obtain ⟨p', r', _, _, _, _, _, e4, _⟩ := nps_at hok hi' h1
  rw [e4] at h
  have : wAt may i = (s : Int) := by rw [wAt_eq hi', h1]; dsimp only at h; omega
  exact absurd (of_decide_eq_false hp) (fun hn => hn this)
theorem bb_soft {may : List Spl} {st : List Int} (hok : may.all Spl.ok = true) {s : Nat} (hs : s < 65536) (hf : hasB st (s : Int) = false) : bb may st s = (-1, -1) := by
  have e := bst_eq (firm := fmN st) (nps_ok hok) hs
  rw [if_neg (show ¬ fmN st s = true by unfold fmN; rw [hf]; exact Bool.false_ne_true)] at e
  exact e
theorem bb_le {may : List Spl} {st : List Int} (hok : may.all Spl.ok = true) {s : Nat} (hs : s < 65536) : -1 ≤ (bb may st s).2 ∧ (bb may st s).2 ≤ 1048576 ∧ -1 ≤ (bb may st s).1 ∧ (bb may st s).1 ≤ may.length := by
  have h := bst_le (firm := fmN st) (nps_ok hok) s hs
  rw [nps_len] at h
  unfold bb
  omega
/-- one more split -/
theorem foldK_step {may : List Spl} {st : List Int} (hok : may.all Spl.ok = true) {s k : Nat} (hk : k < (idx may s).length) {b1 b2 : Int} (hb : foldK may st s k = (b1, b2)) :
    ∃ (i p r : Nat), (idx may s)[k] = i ∧ ∃ h : i < may.length, may[i].w = s ∧ may[i].p = p ∧ may[i].rest = r ∧ p < s ∧ r < s ∧ s < 65536 ∧
      foldK may st s (k + 1) = if 0 ≤ (bb may st p).2 ∧ 0 ≤ (bb may st r).2 ∧ (b2 < 0 ∨ (bb may st p).2 + (bb may st r).2 + (may[i].cost : Nat) < b2) then ((i : Int), (bb may st p).2 + (bb may st r).2 + (may[i].cost : Nat)) else (b1, b2) := by
  obtain ⟨h1, h2⟩ := idx_at hk
  have h3 : may[(idx may s)[k]].w = s := by rw [← wAt_eq h1]; exact h2
  obtain ⟨p, r, e1, e2, e3, e4, e5, e6, e7, e8⟩ := nps_at hok h1 h3
  refine ⟨_, p, r, rfl, h1, h3, e1, e2, e3, e4, e5, ?_⟩
  rw [foldK_succ hk, hb]
  unfold add1
  rw [e8, e7, e6, if_pos rfl]
end Go.Order
namespace Go.Proofs.Ytnkinjilnccmfaa
open Go.RowKit Go.Own Go.BigFrame Go.Big Go.Order
abbrev bv (b : Int × Int) : Value := .agg #[.int .i64 b.1, .int .i64 b.2]
/-- what is known is right -/
def KnM (w : World) (K : Nat) (may : List Spl) (st : List Int) : Prop := ∃ f, MapV w K f ∧ ∀ k v, f k = some v → ∃ n : Nat, n < 65536 ∧ k = n ∧ v = bv (bb may st n)
theorem KnM.chg {F : List Nat} {w w' : World} {K : Nat} {may : List Spl} {st : List Int} (h : KnM w K may st) (hb : Chg F w w') (hK : K ∉ F) : KnM w' K may st := by obtain ⟨f, h1, h2⟩ := h; exact ⟨f, h1.chg hb hK, h2⟩
theorem KnM.lt {w : World} {K : Nat} {may : List Spl} {st : List Int} (h : KnM w K may st) : K < w.heap.size := by obtain ⟨f, h1, _⟩ := h; exact h1.lt
theorem KnM.below {w w' : World} {K : Nat} {may : List Spl} {st : List Int} (h : KnM w K may st) (hb : Below w.heap.size w w') : KnM w' K may st := by obtain ⟨f, h1, h2⟩ := h; exact ⟨f, h1.below hb, h2⟩
/-- the splits of each set -/
def OfM (w : World) (O : Nat) (may : List Spl) : Prop := ∃ f, MapV w O f ∧ ∀ k : Int, ∃ sa cap, (f k).getD (.slice none 0 0) = .slice sa (idx may k).length cap ∧ Sl w 1 (.slice sa (idx may k).length cap) (idx may k).length (nts (idx may k))
theorem OfM.below {w w' : World} {O : Nat} {may : List Spl} (h : OfM w O may) (hb : Below w.heap.size w w') : OfM w' O may := by
  obtain ⟨f, h1, h2⟩ := h
  exact ⟨f, h1.below hb, fun k => by obtain ⟨sa, cap, h3, h4⟩ := h2 k; exact ⟨sa, cap, h3, h4.below hb⟩⟩
def bdv (gk gf go gb gm : Nat) : Value := .func (.func 64) #[] #[.pointer (some ⟨gk, 0, none⟩), .pointer (some ⟨gf, 0, none⟩), .pointer (some ⟨go, 0, none⟩), .pointer (some ⟨gb, 0, none⟩), .pointer (some ⟨gm, 0, none⟩)]
/-- what a builder needs, and what stays -/
structure BdS (V : World) (may : List Spl) (st : List Int) (s : Option Addr) (ca gf go gm F O K gk gb : Nat) : Prop where
  may' : Lst V (.slice s may.length ca) may
  cmay : V.cell? ⟨gm, 0, none⟩ = some (.slice s may.length ca)
  cfirm : V.cell? ⟨gf, 0, none⟩ = some (.map (some F))
  firm : FirmM V F (hasB st)
  cof : V.cell? ⟨go, 0, none⟩ = some (.map (some O))
  of : OfM V O may
  vK : V.heap.size ≤ K
  vk : V.heap.size ≤ gk
  vb : V.heap.size ≤ gb
  n1 : gk ≠ K
  n2 : gb ≠ K
  ok : may.all Spl.ok = true
  nm : may.length < 1000000
/-- what is known now -/
structure BdW (V w : World) (may : List Spl) (st : List Int) (gf go gm K gk gb : Nat) : Prop where
  below : Below V.heap.size V w
  ck : w.cell? ⟨gk, 0, none⟩ = some (.map (some K))
  cb : w.cell? ⟨gb, 0, none⟩ = some (bdv gk gf go gb gm)
  kn : KnM w K may st
theorem BdW.low {V w w' : World} {may : List Spl} {st : List Int} {gf go gm K gk gb : Nat} (h : BdW V w may st gf go gm K gk gb) (hb : Below w.heap.size w w') : BdW V w' may st gf go gm K gk gb :=
  ⟨h.below.trans (hb.mono h.below.size), (hb.cell (p := ⟨gk, 0, none⟩) (World.block_lt_of_cell? _ _ h.ck)).trans h.ck, (hb.cell (p := ⟨gb, 0, none⟩) (World.block_lt_of_cell? _ _ h.cb)).trans h.cb, h.kn.below hb⟩
/-- worlds that differ in what is known -/
def ExtK (K : Nat) (may : List Spl) (st : List Int) (w w' : World) : Prop := Chg [K] w w' ∧ (KnM w K may st → KnM w' K may st)
theorem ExtK.refl (K : Nat) (may : List Spl) (st : List Int) (w : World) : ExtK K may st w w := ⟨Chg.refl _ _, id⟩
theorem ExtK.trans (K : Nat) (may : List Spl) (st : List Int) (a b c : World) (h : ExtK K may st a b) (h' : ExtK K may st b c) : ExtK K may st a c := ⟨h.1.trans h'.1, fun x => h'.2 (h.2 x)⟩
instance (K : Nat) (may : List Spl) (st : List Int) (w : World) : Nonempty (Grown (ExtK K may st) w) := ⟨⟨w, ExtK.refl _ _ _ w⟩⟩
theorem ExtK.of {K : Nat} {may : List Spl} {st : List Int} {w w' : World} (h : Below w.heap.size w w') : ExtK K may st w w' := ⟨Chg.of_below h, fun x => x.below h⟩
theorem BdW.ext {V w w' : World} {may : List Spl} {st : List Int} {s : Option Addr} {ca gf go gm F O K gk gb : Nat} (S : BdS V may st s ca gf go gm F O K gk gb) (h : BdW V w may st gf go gm K gk gb) (hb : ExtK K may st w w') : BdW V w' may st gf go gm K gk gb :=
  ⟨h.below.trans (hb.1.below h.below.size (by have := S.vK; simpa using this)), hb.1.cell h.ck (by have := S.n1; simpa using this), hb.1.cell h.cb (by have := S.n2; simpa using this), hb.2 h.kn⟩
theorem hTknown : Try.prog.underlying 94 = some (.map 22 69) := by kernel_rfl
theorem hTof : Try.prog.underlying 93 = some (.map 22 50) := by kernel_rfl
theorem zeroBest (w : World) : (zeroValue 69).run Try.prog w = .ok (.agg #[.int .i64 0, .int .i64 0]) w := by kernel_rfl
theorem zeroInts (w : World) : (zeroValue 50).run Try.prog w = .ok (.slice none 0 0) w := by kernel_rfl
theorem infoB : (Try.prog.info? 69).map (·.size) = some 2 := by kernel_rfl
theorem aggB : (match Try.prog.underlying 69 with | some (.struct _) | some (.array _ _) => true | _ => false) = true := by kernel_rfl
/-- Another block is set. -/
theorem Chg.oth_new {F : List Nat} {g : Nat} {w w' w'' : World} (h : Chg F w w') (ho : Oth g w' w'') (hg : w.heap.size ≤ g) : Chg F w w'' :=
  ⟨(Chg.of_oth ho (F := [g]) (by simp)).os.trans h.os, (Chg.of_oth ho (F := [g]) (by simp)).tape.trans h.tape, (Chg.of_oth ho (F := [g]) (by simp)).output.trans h.output, by rw [ho.size]; exact h.size, fun k hk hn => by
    rw [ho.block k (by omega)]; exact h.block k hk hn⟩
theorem results_ct {P : Program} {fn : Func} {p q : Tmp} {s : TypeId} (h : fn.results = #[.cell p s, .tmp q]) {tmps : Array Value} {w : World} {a : Addr} {u : Value}
    (hp : tmps.getD p undef = .pointer (some a)) (hu : (loadVar s a).run P w = .ok u w) :
    (results fn tmps).run P w = .ok (.tuple #[u, tmps.getD q undef]) w := by
  simp only [results, h]
  rw [Array.getD_eq_getD_getElem?] at hp
  simp [asAddr, hp, hu, Sem.run_bind]
end Go.Proofs.Ytnkinjilnccmfaa
