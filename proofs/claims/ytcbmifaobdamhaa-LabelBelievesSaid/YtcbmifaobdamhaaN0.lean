/- label: what the rows need: closed facts; a base handed over, opened. -/
import Derived.Test.YtcbmifaobdamhaaA15
import Derived.Test.YtcbmifaobdamhaaOpn
import Derived.Lib.SmallJoins
import Derived.ProofKit
import Derived.OpenShut
import Derived.Carry
namespace Go.Own
open Go.ChangeShapes Go.WideShapes Go.ChangeAt Go.RowKit Go.Deep
section
variable {H : Type} {enc : TypeId × Value → H} {P : Program} {W : World}
/-- A nested slice of structs: where it is not empty, it reads. -/
theorem structs_of_cell {t e : TypeId} {s fuel : Nat} {c : Value} {x : DataW H × List MemPlace} (ht : P.underlying t = some (.slice e)) (hc : P.cellsOf e = s) (hs : 0 < s)
    (h : DataW.trod enc P W 0 (fun _ => true) true fuel t [c] = some x) :
    ∃ (L : List (List Value)) (sa : Option Addr) (cap : Nat), c = .slice sa L.length cap ∧ (0 < L.length → Sl W s c L.length L.flatten) ∧ L.length ≤ maxLen ∧ ∀ cs ∈ L, cs.length = s ∧ ∃ n y, DataW.trod enc P W 0 (fun _ => true) true n e cs = some y := by
  rcases open_slice ht h with ⟨hcs, _⟩ | ⟨a, len, cap, m, n, D, Pl, hcs, _, hl, hm, hmm, _, hx⟩
  · obtain rfl : c = .slice none 0 0 := by simpa using hcs
    exact ⟨[], none, 0, rfl, fun h => absurd h (by simp), Nat.zero_le _, by simp⟩
  · obtain rfl : c = .slice (some a) len cap := by simpa using hcs
    simp only [if_true] at hmm
    subst hmm
    rw [hc] at hx
    have each : ∀ i, i < len → ∃ cs, cs.length = s ∧ (∃ n y, DataW.trod enc P W 0 (fun _ => true) true n e cs = some y) ∧ ∀ j u, cs[j]? = some u → W.cell? ((a.add (i * s)).add j) = some u := fun i hi => by
      obtain ⟨cs, h3, h4⟩ := hx i (by omega)
      unfold World.cells? at h3
      rw [if_pos (Nat.zero_le _)] at h3
      obtain ⟨h5, h6⟩ := mapM_cells h3
      exact ⟨cs, h5, ⟨n, _, h4⟩, h6⟩
    obtain ⟨F, hF⟩ := choose_lt each
    have hlen : ((List.range len).map F).length = len := by simp
    refine ⟨(List.range len).map F, some a, m, by rw [hlen], fun hne => ?_, by simp; omega, fun cs hcs => ?_⟩
    · rw [hlen] at hne
      obtain ⟨b, off, sp⟩ := a
      have h0 := hF 0 hne
      have hc0 : ∃ u, (F 0)[0]? = some u := ⟨(F 0)[0]'(by rw [h0.1]; exact hs), List.getElem?_eq_getElem _⟩
      obtain ⟨u, hu⟩ := hc0
      have hcell0 := h0.2.2 0 u hu
      have ha0 : ((⟨b, off, sp⟩ : Addr).add (0 * s)).add 0 = ⟨b, off, sp⟩ := by simp [Addr.add]
      rw [ha0] at hcell0
      have hsp : sp = none := by
        unfold World.cell? at hcell0
        cases sp with
        | none => rfl
        | some q => simp at hcell0; split at hcell0 <;> cases hcell0
      subst hsp
      have hlt := World.block_lt_of_cell? _ _ hcell0
      have each2 : ∀ i, i < len → ∀ j u, (F i)[j]? = some u → W.cell? ⟨b, off + i * s + j, none⟩ = some u := fun i hi j u hj => by
        have := (hF i hi).2.2 j u hj
        rwa [Addr.add_lit, Addr.add_lit] at this
      have hfl : ∀ k, k ≤ len → (((List.range k).map F).flatten).length = k * s := fun k => by
        induction k with
        | zero => intro _; simp
        | succ k ih =>
          intro hk
          rw [List.range_succ, List.map_append, List.flatten_append, List.length_append, ih (by omega)]
          simp [(hF k (by omega)).1]
          rw [Nat.add_mul, Nat.one_mul]
      have hcell : ∀ k, k ≤ len → Cells W b off (((List.range k).map F).flatten) := fun k => by
        induction k with
        | zero => intro _ i u hi; simp at hi
        | succ k ih =>
          intro hk i u hi
          rw [List.range_succ, List.map_append, List.flatten_append] at hi
          by_cases hlt : i < k * s
          · rw [List.getElem?_append_left (by rw [hfl k (by omega)]; exact hlt)] at hi
            exact ih (by omega) i u hi
          · rw [List.getElem?_append_right (by rw [hfl k (by omega)]; omega), hfl k (by omega)] at hi
            simp at hi
            have := each2 k (by omega) (i - k * s) u hi
            rwa [show off + k * s + (i - k * s) = off + i by omega] at this
      rw [hlen]
      exact ⟨hfl len (Nat.le_refl _), .inr ⟨b, off, m, rfl, by omega, hm, hcell len (Nat.le_refl _), hlt⟩⟩
    · obtain ⟨i, hi, rfl⟩ := List.mem_map.1 hcs
      have hi' := List.mem_range.1 hi
      exact ⟨(hF i hi').1, (hF i hi').2.1⟩
end
end Go.Own
namespace Go.Proofs.Ytcbmifaobdamhaa
open Go.ChangeShapes Go.WideShapes Go.ChangeAt Go.RowKit Go.Own Go.Theory Go.Label Go.Joins
theorem ownK : ownKnob Try.prog.godebug = none := by kernel_rfl
theorem laidOutK : laidOutB Try.prog = true := by kernel_rfl
theorem cellsInt : Try.prog.cellsOf 3 = 1 := by kernel_rfl
theorem cellsInts : Try.prog.cellsOf 22 = 1 := by kernel_rfl
theorem cellsRule : Try.prog.cellsOf 61 = 2 := by kernel_rfl
theorem cellsLogic : Try.prog.cellsOf 25 = 3 := by kernel_rfl
theorem rg_wf {z : Int} (h : (Lit.int .i64 z).wf = true) : rg z := by
  have e1 : IntKind.min .i64 = -9223372036854775808 := by decide
  have e2 : IntKind.max .i64 = 9223372036854775807 := by decide
  simp only [Lit.wf, e1, e2, Bool.and_eq_true, decide_eq_true_eq] at h
  exact h
/-- a rule, with the slice of its body -/
structure Rlm where
  r : Rl
  sb : Option Addr
  cb : Nat
def rlcells (x : Rlm) : List Value := [.int .i64 x.r.head, .slice x.sb x.r.body.length x.cb]
theorem cells2_map : ∀ l : List Rlm, (l.map rlcells).flatten = cells2 (l.map (·.r)) (l.map fun x => .slice x.sb x.r.body.length x.cb)
  | [] => rfl
  | x :: l => by
    have ih := cells2_map l
    simp only [List.map_cons, List.flatten_cons, cells2]
    rw [← ih]
    rfl
section
variable {H : Type} {enc : TypeId × Value → H} {W : World}
set_option maxRecDepth 100000 in
theorem rule_of_cells {fuel : Nat} {cs : List Value} {y : DataW H × List MemPlace} (hl : cs.length = 2) (h : DataW.trod enc Try.prog W 0 (fun _ => true) true fuel 61 cs = some y) :
    ∃ x : Rlm, cs = rlcells x ∧ Sz W (.slice x.sb x.r.body.length x.cb) x.r.body.length (x.r.body.map (.int .i64)) ∧ rg x.r.head ∧ ∀ z ∈ x.r.body, rg z := by
  obtain ⟨c0, c1, rfl⟩ : ∃ a b, cs = [a, b] := by
    match cs, hl with
    | [a, b], _ => exact ⟨a, b, rfl⟩
  obtain ⟨y0, y1, n, _, _, h0, h1⟩ := trod_struct2 Try.underlying61 h
  dsimp only at h0 h1
  rw [cellsInt] at h0
  rw [cellsInts] at h1
  simp only [List.drop_zero, List.drop_succ_cons, List.take_succ_cons, List.take_zero] at h0 h1
  obtain ⟨z0, rfl, w0⟩ := int_of_cell Try.underlying3 h0
  obtain ⟨zs, sa, cap, rfl, hS, _, hw⟩ := ints_of_cell Try.underlying22 Try.underlying3 cellsInt h1
  exact ⟨⟨⟨z0, zs⟩, sa, cap⟩, rfl, fun hne => hS (by intro e; rw [e] at hne; simp at hne), rg_wf w0, fun z hz => rg_wf (hw z hz)⟩
set_option maxRecDepth 100000 in
/-- a base handed over -/
theorem base_of {b0 : Nat} {r : Reach} {v : Value} {d : DataW H} {ps : List MemPlace} (hval : Value.okWide Try.prog W r b0 25 v) (h : DataW.Trod enc Try.prog W 0 (fun _ => true) true 25 v d ps) :
    ∃ (b : Lg) (sa sr : Option Addr) (ca cr : Nat) (bs : List Value), v = lgV b sa sr ca cr ∧ LgAt W b sa sr ca cr bs ∧ LgRg b ∧ b.assume.length ≤ maxLen ∧ b.rules.length ≤ maxLen := by
  obtain ⟨v0, v1, v2, y0, y1, y2, n, rfl, rfl, rfl, h0, h1, h2⟩ := open_agg3 Try.underlying25 (by kernel_rfl) cellsLogic hval h
  obtain ⟨F, rfl, wF⟩ := int_of_cell Try.underlying3 h0
  obtain ⟨zs, sa, ca, rfl, hS, hm1, hw⟩ := ints_of_cell Try.underlying22 Try.underlying3 cellsInt h1
  obtain ⟨L, sr, cr, rfl, hR, hm2, hL⟩ := structs_of_cell Try.underlying23 cellsRule (by decide) h2
  obtain ⟨l, rfl, hl⟩ := choose_map (f := rlcells) (p := fun x => Sz W (.slice x.sb x.r.body.length x.cb) x.r.body.length (x.r.body.map (.int .i64)) ∧ rg x.r.head ∧ ∀ z ∈ x.r.body, rg z) (L := L) fun cs hcs => by
    obtain ⟨hl, n, y, hy⟩ := hL cs hcs
    exact rule_of_cells hl hy
  rw [List.length_map] at hR hm2
  refine ⟨⟨F, zs, l.map (·.r)⟩, sa, sr, ca, cr, l.map fun x => .slice x.sb x.r.body.length x.cb, by unfold lgV; simp, ⟨fun hne => hS (by intro e; rw [e] at hne; simp at hne), fun hne => ?_, by simp, fun i h1 h2 => ?_⟩, ⟨rg_wf wF, fun z hz => rg_wf (hw z hz), fun r hr => ?_, fun r hr => ?_⟩, hm1, by simpa using hm2⟩
  · have h3 := hR (by simpa using hne)
    rw [cells2_map] at h3
    simpa using h3
  · have hi : i < l.length := by simpa using h1
    have h3 := (hl _ (List.getElem_mem hi)).1
    exact ⟨l[i].sb, l[i].cb, by simp, by simpa using h3⟩
  · obtain ⟨x, hx, rfl⟩ := List.mem_map.1 hr
    exact (hl x hx).2.1
  · obtain ⟨x, hx, rfl⟩ := List.mem_map.1 hr
    exact (hl x hx).2.2
end
end Go.Proofs.Ytcbmifaobdamhaa
