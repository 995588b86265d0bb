/- order: a list of splits handed over, opened; each nested slice with its weight. -/
import Derived.Test.YtnkinjilnccmfaaO12
import Derived.Test.YtnkinjilnccmfaaOpn
import Derived.Lib.SmallJoins
import Derived.ProofKit
import Derived.OpenShut
import Derived.Carry
import Derived.SizedLaws
namespace Go.Own
open Go.ChangeShapes Go.WideShapes Go.ChangeAt Go.RowKit Go.Deep
section
variable {H : Type} {enc : TypeId × Value → H} {P : Program} {W : World}
theorem lits_len {k : IntKind} (zs : List Int) : (lits (H := H) k zs).length = zs.length := by unfold lits; simp
/-- A nested slice of numbers, and what it weighs. -/
theorem ints_of_cellW {t e : TypeId} {k : IntKind} {fuel : Nat} {c : Value} {x : DataW H × List MemPlace} (ht : P.underlying t = some (.slice e)) (he : P.underlying e = some (.int k)) (hc : P.cellsOf e = 1)
    (h : DataW.trod enc P W 0 (fun _ => true) true fuel t [c] = some x) {R : Nat} (hR : ∀ n ∈ x.1.weights P t, n ≤ R) :
    ∃ (zs : List Int) (sa : Option Addr) (cap : Nat), c = .slice sa zs.length cap ∧ (zs ≠ [] → Sl W 1 c zs.length (zs.map (.int k))) ∧ zs.length * P.bytesOf e ≤ R := by
  obtain ⟨zs, sa, cap, rfl, h1, _, _⟩ := ints_of_cell ht he hc h
  refine ⟨zs, sa, cap, rfl, h1, ?_⟩
  rcases open_ints ht he hc h with ⟨hcs, _⟩ | ⟨a, len, cap', zs', hcs, _, hl, hm, hz, hx, _, _⟩
  · have h2 : Value.slice sa zs.length cap = .slice none 0 0 := by simpa using hcs
    have h3 : zs.length = 0 := by injection h2
    rw [h3]; simp
  · have h2 : Value.slice sa zs.length cap = .slice (some a) len cap' := by simpa using hcs
    have h3 : zs.length = len := by injection h2
    subst hx
    simp only [if_true] at hz
    have h4 := hR (((lits (H := H) k (zs'.take len)).length + (lits (H := H) k (zs'.drop len)).length) * P.bytesOf e) (by simp [DataW.weights, ht])
    rw [lits_len, lits_len] at h4
    have h5 : zs.length ≤ (zs'.take len).length + (zs'.drop len).length := by simp; omega
    exact Nat.le_trans (Nat.mul_le_mul_right _ h5) h4
end
end Go.Own
namespace Go.Proofs.Ytnkinjilnccmfaa
open Go.ChangeShapes Go.WideShapes Go.ChangeAt Go.RowKit Go.Own Go.Deep Go.Order
section
variable {H : Type} {enc : TypeId × Value → H} {W : World}
theorem cells50 : Try.prog.cellsOf 50 = 1 := by kernel_rfl
theorem cells52 : Try.prog.cellsOf 52 = 2 := by kernel_rfl
theorem cells54 : Try.prog.cellsOf 54 = 4 := by kernel_rfl
theorem cells56 : Try.prog.cellsOf 56 = 8 := by kernel_rfl
theorem cells58 : Try.prog.cellsOf 58 = 10 := by kernel_rfl
theorem cells3 : Try.prog.cellsOf 3 = 1 := by kernel_rfl
theorem cells4 : Try.prog.cellsOf 4 = 1 := by kernel_rfl
theorem cells22 : Try.prog.cellsOf 22 = 1 := by kernel_rfl
theorem bytes3 : Try.prog.bytesOf 3 = 8 := by kernel_rfl
/-- a number that weighs at most R -/
def Nw (W : World) (R : Nat) (x : Num) : Prop := Sz W x.sl x.d.length (intsI x.d) ∧ x.d.length * 8 ≤ R
theorem num_of_cells {fuel R : Nat} {cs : List Value} {y : DataW H × List MemPlace} (hl : cs.length = 2) (h : DataW.trod enc Try.prog W 0 (fun _ => true) true fuel 52 cs = some y) (hR : ∀ n ∈ y.1.weights Try.prog 52, n ≤ R) :
    ∃ x : Num, cs = x.cells ∧ Nw W R x := by
  obtain ⟨c0, c1, rfl⟩ : ∃ a b, cs = [a, b] := by
    match cs, hl with
    | [a, b], _ => exact ⟨a, b, rfl⟩
  obtain ⟨y0, y1, n, hy, _, h0, h1⟩ := trod_struct2 Try.underlying52 h
  dsimp only at h0 h1
  rw [cells4] at h0
  rw [cells50] at h1
  simp only [List.drop_zero, List.drop_succ_cons, List.take_succ_cons, List.take_zero] at h0 h1
  obtain ⟨b, hb, _⟩ := DataW.trod_bool Try.underlying4 h0
  obtain rfl : c0 = .bool b := by simpa using hb
  obtain ⟨zs, sa, cap, rfl, hS, hw⟩ := ints_of_cellW Try.underlying50 Try.underlying3 cells3 h1 (R := R) (fun n hn => hR n (by
    rw [hy]
    simp only [DataW.weights, Try.underlying52, List.map_cons, List.map_nil, DataW.weightsEach, List.mem_append]
    exact Or.inr (Or.inl hn)))
  rw [bytes3] at hw
  exact ⟨⟨b, zs, sa, cap⟩, rfl, fun hne => hS (by intro e; rw [e] at hne; simp at hne), hw⟩
theorem rat_of_cells {fuel R : Nat} {cs : List Value} {y : DataW H × List MemPlace} (hl : cs.length = 4) (h : DataW.trod enc Try.prog W 0 (fun _ => true) true fuel 54 cs = some y) (hR : ∀ n ∈ y.1.weights Try.prog 54, n ≤ R) :
    ∃ x z : Num, cs = x.cells ++ z.cells ∧ Nw W R x ∧ Nw W R z := by
  obtain ⟨c0, c1, c2, c3, rfl⟩ : ∃ a b c d, cs = [a, b, c, d] := by
    match cs, hl with
    | [a, b, c, d], _ => exact ⟨a, b, c, d, rfl⟩
  obtain ⟨y0, y1, n, hy, _, h0, h1⟩ := trod_struct2 Try.underlying54 h
  dsimp only at h0 h1
  rw [cells52] at h0 h1
  simp only [List.drop_zero, List.drop_succ_cons, List.take_succ_cons, List.take_zero] at h0 h1
  obtain ⟨x, hx, wx⟩ := num_of_cells rfl h0 (R := R) (fun n hn => hR n (by
    rw [hy]
    simp only [DataW.weights, Try.underlying54, List.map_cons, List.map_nil, DataW.weightsEach, List.mem_append]
    exact Or.inl hn))
  obtain ⟨z, hz, wz⟩ := num_of_cells rfl h1 (R := R) (fun n hn => hR n (by
    rw [hy]
    simp only [DataW.weights, Try.underlying54, List.map_cons, List.map_nil, DataW.weightsEach, List.mem_append]
    exact Or.inr (Or.inl hn)))
  exact ⟨x, z, by rw [← hx, ← hz]; rfl, wx, wz⟩
theorem dir_of_cells {fuel R : Nat} {cs : List Value} {y : DataW H × List MemPlace} (hl : cs.length = 8) (h : DataW.trod enc Try.prog W 0 (fun _ => true) true fuel 56 cs = some y) (hR : ∀ n ∈ y.1.weights Try.prog 56, n ≤ R) :
    ∃ a b c d : Num, cs = a.cells ++ b.cells ++ (c.cells ++ d.cells) ∧ Nw W R a ∧ Nw W R b ∧ Nw W R c ∧ Nw W R d := by
  obtain ⟨c0, c1, c2, c3, c4, c5, c6, c7, rfl⟩ : ∃ a b c d e f g h, cs = [a, b, c, d, e, f, g, h] := by
    match cs, hl with
    | [a, b, c, d, e, f, g, h], _ => exact ⟨a, b, c, d, e, f, g, h, rfl⟩
  obtain ⟨y0, y1, n, hy, _, h0, h1⟩ := trod_struct2 Try.underlying56 h
  dsimp only at h0 h1
  rw [cells54] at h0 h1
  simp only [List.drop_zero, List.drop_succ_cons, List.take_succ_cons, List.take_zero] at h0 h1
  obtain ⟨a, b, hx, wa, wb⟩ := rat_of_cells rfl h0 (R := R) (fun n hn => hR n (by
    rw [hy]
    simp only [DataW.weights, Try.underlying56, List.map_cons, List.map_nil, DataW.weightsEach, List.mem_append]
    exact Or.inl hn))
  obtain ⟨c, d, hz, wc, wd⟩ := rat_of_cells rfl h1 (R := R) (fun n hn => hR n (by
    rw [hy]
    simp only [DataW.weights, Try.underlying56, List.map_cons, List.map_nil, DataW.weightsEach, List.mem_append]
    exact Or.inr (Or.inl hn)))
  exact ⟨a, b, c, d, by rw [← hx, ← hz]; rfl, wa, wb, wc, wd⟩
/-- a split that weighs at most R in each of its parts -/
def Sw (W : World) (R : Nat) (x : Spl) : Prop := Nw W R x.a ∧ Nw W R x.b ∧ Nw W R x.c ∧ Nw W R x.d
theorem spl_of_cells {fuel R : Nat} {cs : List Value} {y : DataW H × List MemPlace} (hl : cs.length = 10) (h : DataW.trod enc Try.prog W 0 (fun _ => true) true fuel 58 cs = some y) (hR : ∀ n ∈ y.1.weights Try.prog 58, n ≤ R) :
    ∃ x : Spl, cs = x.cells ∧ Sw W R x := by
  obtain ⟨c0, c1, c2, c3, c4, c5, c6, c7, c8, c9, rfl⟩ : ∃ p q a b c d e f g h, cs = [p, q, a, b, c, d, e, f, g, h] := by
    match cs, hl with
    | [p, q, a, b, c, d, e, f, g, h], _ => exact ⟨p, q, a, b, c, d, e, f, g, h, rfl⟩
  obtain ⟨y0, y1, y2, n, hy, _, h0, h1, h2⟩ := trod_struct3 Try.underlying58 h
  dsimp only at h0 h1 h2
  rw [cells22] at h0 h1
  rw [cells56] at h2
  simp only [List.drop_zero, List.drop_succ_cons, List.take_succ_cons, List.take_zero] at h0 h1 h2
  obtain ⟨p, rfl, _⟩ := int_of_cell Try.underlying22 h0
  obtain ⟨q, rfl, _⟩ := int_of_cell Try.underlying22 h1
  obtain ⟨a, b, c, d, hx, wa, wb, wc, wd⟩ := dir_of_cells rfl h2 (R := R) (fun n hn => hR n (by
    rw [hy]
    simp only [DataW.weights, Try.underlying58, List.map_cons, List.map_nil, DataW.weightsEach, List.mem_append]
    exact Or.inr (Or.inr (Or.inl hn))))
  exact ⟨⟨p, q, a, b, c, d⟩, by rw [hx]; rfl, wa, wb, wc, wd⟩
end
end Go.Proofs.Ytnkinjilnccmfaa
/- order: a list of splits handed over, opened: the whole. -/
namespace Go.Own
open Go.ChangeShapes Go.WideShapes Go.ChangeAt Go.RowKit Go.Deep
section
variable {H : Type} {enc : TypeId × Value → H} {P : Program} {W : World}
theorem weights_mem_all {t : TypeId} {d : DataW H} {q : Nat} : ∀ {l : List (DataW H)}, d ∈ l → q ∈ d.weights P t → q ∈ DataW.weightsAll P t l
  | x :: l, h, hq => by
    unfold DataW.weightsAll
    rcases List.mem_cons.1 h with rfl | h
    · exact List.mem_append_left _ hq
    · exact List.mem_append_right _ (weights_mem_all h hq)
/-- A slice of structs, each of which reads and weighs no more than the whole. -/
theorem sl_of_structsW {r : Reach} {b0 : Nat} {t e : TypeId} {s : Nat} {v : Value} {d : DataW H} {ps : List MemPlace} (ht : P.underlying t = some (.slice e)) (hc : P.cellsOf e = s)
    (hval : Value.okWide P W r b0 t v) (hd : DataW.Trod enc P W 0 (fun _ => true) true t v d ps) {R : Nat} (hR : ∀ n ∈ d.weights P t, n ≤ R) :
    ∃ L : List (List Value), Sl W s v L.length L.flatten ∧ L.length ≤ maxLen ∧ L.length * P.bytesOf e ≤ R ∧ ∀ cs ∈ L, cs.length = s ∧ ∃ n y, DataW.trod enc P W 0 (fun _ => true) true n e cs = some y ∧ ∀ m ∈ y.1.weights P e, m ≤ R := by
  obtain ⟨fuel, hf⟩ := hd
  have hno : ∀ xs, v ≠ .agg xs := by
    intro xs hv; subst hv
    unfold Value.okWide at hval
    rw [ht] at hval
    have hv' : Cell.okWide P W r b0 t (.agg xs) := hval
    unfold Cell.okWide at hv'; rw [ht] at hv'
    have h2 : Cell.ok P W r b0 t (.agg xs) := hv'
    unfold Cell.ok at h2; rw [ht] at h2; exact h2
  rcases open_slice ht hf with ⟨hcs, _⟩ | ⟨a, len, cap, m, n, D, Pl, hcs, _, hl, hm, hmm, hxe, hx⟩
  · have hv : v = .slice none 0 0 := by
      cases v <;> simp [Value.cells] at hcs
      case slice => rw [hcs.1, hcs.2.1, hcs.2.2]
      case agg xs => exact absurd rfl (hno xs)
    exact ⟨[], ⟨by simp, .inl ⟨hv, rfl⟩⟩, Nat.zero_le _, by simp, by simp⟩
  · have hv : v = .slice (some a) len cap := by
      cases v <;> simp [Value.cells] at hcs
      case slice => rw [hcs.1, hcs.2.1, hcs.2.2]
      case agg xs => exact absurd rfl (hno xs)
    subst hv
    obtain ⟨h1, h2⟩ := slice_okW ht hval
    obtain ⟨b, off, sp⟩ := a
    obtain rfl : sp = none := h1
    simp only [if_true] at hmm
    subst hmm
    rw [hc] at hx
    have hde : d = .slice ((List.range len).map D) ((List.range (m - len)).map fun j => D (len + j)) := congrArg Prod.fst hxe
    have hw : d.weights P t = (((List.range len).map D).length + ((List.range (m - len)).map fun j => D (len + j)).length) * P.bytesOf e :: (DataW.weightsAll P e ((List.range len).map D) ++ DataW.weightsAll P e ((List.range (m - len)).map fun j => D (len + j))) := by
      rw [hde]; simp [DataW.weights, ht]
    have hRD : ∀ i, i < len → ∀ q ∈ (D i).weights P e, q ≤ R := fun i hi q hq => hR q (by
      rw [hw]
      exact List.mem_cons_of_mem _ (List.mem_append_left _ (weights_mem_all (List.mem_map.2 ⟨i, List.mem_range.2 hi, rfl⟩) hq)))
    have hRl : len * P.bytesOf e ≤ R := by
      have h4 := hR _ (by rw [hw]; exact List.mem_cons_self)
      refine Nat.le_trans (Nat.mul_le_mul_right _ ?_) h4
      simp
    clear hxe hde hw
    have each : ∀ i, i < len → ∃ cs, cs.length = s ∧ (∃ n y, DataW.trod enc P W 0 (fun _ => true) true n e cs = some y ∧ ∀ m ∈ y.1.weights P e, m ≤ R) ∧ ∀ j u, cs[j]? = some u → W.cell? ⟨b, off + i * s + j, none⟩ = some u := fun i hi => by
      obtain ⟨cs, h3, h4⟩ := hx i (by omega)
      unfold World.cells? at h3
      rw [if_pos (Nat.zero_le _)] at h3
      obtain ⟨h5, h6⟩ := mapM_cells h3
      refine ⟨cs, h5, ⟨n, _, h4, fun q hq => hRD i hi q hq⟩, fun j u hj => ?_⟩
      have := h6 j u hj
      rwa [Addr.add_lit, Addr.add_lit] at this
    obtain ⟨F, hF⟩ := choose_lt each
    refine ⟨(List.range len).map F, ?_, by simp; omega, by simpa using hRl, fun cs hcs => ?_⟩
    · have hfl : ∀ k, k ≤ len → (((List.range k).map F).flatten).length = k * s := fun k => by
        induction k with
        | zero => intro _; simp
        | succ k ih =>
          intro hk
          rw [List.range_succ, List.map_append, List.flatten_append, List.length_append, ih (by omega)]
          simp [(hF k (by omega)).1]
          rw [Nat.add_mul, Nat.one_mul]
      have hcell : ∀ k, k ≤ len → Cells W b off (((List.range k).map F).flatten) := fun k => by
        induction k with
        | zero => intro _ i u hi; simp at hi
        | succ k ih =>
          intro hk i u hi
          rw [List.range_succ, List.map_append, List.flatten_append] at hi
          by_cases hlt : i < k * s
          · rw [List.getElem?_append_left (by rw [hfl k (by omega)]; exact hlt)] at hi
            exact ih (by omega) i u hi
          · rw [List.getElem?_append_right (by rw [hfl k (by omega)]; omega), hfl k (by omega)] at hi
            simp at hi
            have := (hF k (by omega)).2.2 (i - k * s) u hi
            rwa [show off + k * s + (i - k * s) = off + i by omega] at this
      have hlen : ((List.range len).map F).length = len := by simp
      rw [hlen]
      exact ⟨hfl len (Nat.le_refl _), .inr ⟨b, off, m, rfl, by omega, hm, hcell len (Nat.le_refl _), h2⟩⟩
    · obtain ⟨i, hi, rfl⟩ := List.mem_map.1 hcs
      have hi' := List.mem_range.1 hi
      exact ⟨(hF i hi').1, (hF i hi').2.1⟩
end
end Go.Own
namespace Go.Proofs.Ytnkinjilnccmfaa
open Go.ChangeShapes Go.WideShapes Go.ChangeAt Go.RowKit Go.Own Go.Deep Go.Order
section
variable {H : Type} {enc : TypeId × Value → H} {W : World}
theorem bytes58 : Try.prog.bytesOf 58 = 144 := by kernel_rfl
set_option maxRecDepth 100000 in
/-- a list of splits handed over -/
theorem lst_of {b0 : Nat} {r : Reach} {v : Value} {d : DataW H} {ps : List MemPlace} (hval : Value.okWide Try.prog W r b0 23 v) (h : DataW.Trod enc Try.prog W 0 (fun _ => true) true 23 v d ps) {R : Nat} (h8 : R ≤ 140737488351232) (hR : ∀ n ∈ d.weights Try.prog 23, n ≤ R) :
    ∃ (l : List Spl) (s : Option Addr) (ca : Nat), v = .slice s l.length ca ∧ Lst W v l ∧ l.length * 144 ≤ R := by
  obtain ⟨L, hS, hm, hw, hL⟩ := sl_of_structsW Try.underlying23 cells58 hval h hR
  obtain ⟨l, rfl, hl⟩ := choose_map (f := Spl.cells) (p := Sw W R) (L := L) fun cs hcs => by
    obtain ⟨hl, n, y, hy, hy2⟩ := hL cs hcs
    exact spl_of_cells hl hy hy2
  rw [List.length_map] at hS hw
  rw [bytes58] at hw
  have hAt : ∀ x ∈ l, x.At W := fun x hx => by
    obtain ⟨wa, wb, wc, wd⟩ := hl x hx
    have k : ∀ z : Num, Nw W R z → z.At W := fun z hz => ⟨hz.1, by have := hz.2; show _ ≤ 17592186043904; omega⟩
    exact ⟨k _ wa, k _ wb, k _ wc, k _ wd⟩
  have hl2 : Lst W v l := ⟨hS, hAt⟩
  rcases hS.2 with ⟨h1, h2⟩ | ⟨b, off, cap, h1, h2⟩
  · exact ⟨l, none, 0, by rw [h1, h2], hl2, hw⟩
  · exact ⟨l, _, cap, h1, hl2, hw⟩
end
end Go.Proofs.Ytnkinjilnccmfaa
