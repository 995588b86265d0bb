/- A law's row out of its walk: it returns true and below the old heap's size nothing has turned. Any program. -/
import Derived.ProofKit
import Derived.Carry
import Derived.OpenShut
import Derived.ChangeSlices
import Derived.Deep.Strs
import Derived.Test.YtkccmpikeekceaaGreatTQ00
import Derived.Test.YtkccmpikeekceaaGreatTQ49
/- A law's row out of its walk: it returns true and below the old heap's size nothing has turned. Any program. -/
section
namespace Go.Own
open Go.ChangeShapes Go.WideShapes Go.ChangeAt Go.RowKit
variable {H : Type} {enc : TypeId × Value → H} {P : Program}
theorem trodAll_below (hl : laidOutB P = true) {W W' : World} (hb : Below W.heap.size W W') : ∀ {ts : List TypeId} {vs : List Value} {ds : List (DataW H)} {ps : List MemPlace}, (ts.all fun t => P.readableRec t && decide (t < P.types.size)) = true →
    DataW.TrodAll enc P W 0 (fun _ => true) true ts vs ds ps → (∀ x ∈ ps, x.block < W.heap.size) → DataW.TrodAll enc P W' 0 (fun b => decide (b < W.heap.size)) true ts vs ds ps
  | [], [], [], _, _, h, _ => h
  | _ :: _, _ :: _, _ :: _, _, hT, ⟨p, q, h1, h2, e⟩, hs => by
    rw [List.all_cons, Bool.and_eq_true, Bool.and_eq_true, decide_eq_true_eq] at hT
    exact ⟨p, q, Below.trod hl hT.1.1 hT.1.2 h1 hb (fun x hx => hs x (by rw [e]; exact List.mem_append_left _ hx)), trodAll_below hl hb hT.2 h2 (fun x hx => hs x (by rw [e]; exact List.mem_append_right _ hx)), e⟩
theorem law_post (hl : laidOutB P = true) {f : Func} {s : ChangeSpec} {fresh handsOn : Bool} {W W' : World} {args : Array Value} {ds gs : List (DataW H)} {before : List MemPlace} {b : TypeId}
    (hr : (f.params.toList.all fun t => P.readableRec t && decide (t < P.types.size)) = true) (hres : f.resultTypes = #[b]) (hub : P.underlying b = some .bool) (hv : s.vars = [])
    (hs : (s.fn H (ds ++ gs)).results = [.lit (.bool true)] ∧ (s.fn H (ds ++ gs)).args = ds ∧ (s.fn H (ds ++ gs)).vars = [])
    (hW : DataW.Whole enc P f.params.toList s.vars false W args.toList ds gs before) (hb : Below W.heap.size W W') :
    s.post enc P f false fresh handsOn false W args (.bool true) W' := by
  have hW' := hW
  obtain ⟨p, q, hA, hV, hbe, hfz, hnd⟩ := hW
  have hlt : ∀ x ∈ p, x.block < W.heap.size := fun x hx => hW'.lt x (by rw [hbe]; exact List.mem_append_left _ hx)
  refine ⟨ds, gs, before, [], p, [], hW', ?_, ?_, ?_, hb.frame _, fun h => by cases h⟩
  · rw [hs.1, hres]; exact trodAll_mk1 (shut_bool hub _)
  · rw [hs.2.1]; exact trodAll_below hl hb hr hA hlt
  · rw [hs.2.2, hv]; exact rfl
end Go.Own
namespace Go.Own
open Go.ChangeShapes Go.WideShapes Go.ChangeAt Go.RowKit
section
variable {H : Type} {enc : TypeId × Value → H} {P : Program} {W : World}
theorem shape_lt {w : World} {b : Nat} {x : TypeId × Nat} (h : w.shape? b = some x) : b < w.heap.size := by
  rcases Nat.lt_or_ge b w.heap.size with h' | h'
  · exact h'
  · unfold World.shape? at h
    simp [Array.getElem?_eq_none h'] at h
theorem slice_okW {r : Reach} {b0 : Nat} {t e : TypeId} {a : Addr} {len cap : Nat} (ht : P.underlying t = some (.slice e)) (h : Value.okWide P W r b0 t (.slice (some a) len cap)) : a.spot = none ∧ a.block < W.heap.size := by
  unfold Value.okWide at h
  rw [ht] at h
  have h' : Cell.okWide P W r b0 t (.slice (some a) len cap) := h
  unfold Cell.okWide at h'
  rw [ht] at h'
  have h2 : Cell.ok P W r b0 t (.slice (some a) len cap) := h'
  unfold Cell.ok at h2
  rw [ht] at h2
  obtain ⟨_, _, hh⟩ := h2
  obtain ⟨_, h3, row, cells, h4, _⟩ := hh
  exact ⟨h3, shape_lt h4⟩
theorem sl_of_ints {r : Reach} {b0 : Nat} {t e : TypeId} {k : IntKind} {v : Value} {d : DataW H} {ps : List MemPlace} (ht : P.underlying t = some (.slice e)) (he : P.underlying e = some (.int k)) (hc : P.cellsOf e = 1)
    (hval : Value.okWide P W r b0 t v) (hd : DataW.Trod enc P W 0 (fun _ => true) true t v d ps) :
    ∃ zs : List Int, Sl W 1 v zs.length (zs.map (.int k)) ∧ zs.length ≤ maxLen ∧ ∀ z ∈ zs, (Lit.int k z).wf = true := by
  obtain ⟨fuel, hf⟩ := hd
  have hcell : v.cells.toList = [v] ∨ ∃ xs, v = .agg xs := by cases v <;> first | exact .inl rfl | exact .inr ⟨_, rfl⟩
  rcases open_ints ht he hc hf with ⟨hcs, _⟩ | ⟨a, len, cap, zs, hcs, _, hl, hm, hz, _, hcell', hwz⟩
  · have hv : v = .slice none 0 0 := by
      unfold Value.okWide at hval
      rw [ht] at hval
      cases v <;> simp [Value.cells] at hcs
      case slice => rw [hcs.1, hcs.2.1, hcs.2.2]
      case agg xs => exact absurd hval (by intro hv; have hv' : Cell.okWide P W r b0 t (.agg xs) := hv; unfold Cell.okWide at hv'; rw [ht] at hv'; have h2 : Cell.ok P W r b0 t (.agg xs) := hv'; unfold Cell.ok at h2; rw [ht] at h2; exact h2)
    exact ⟨[], ⟨rfl, .inl ⟨hv, rfl⟩⟩, Nat.zero_le _, by simp⟩
  · have hv : v = .slice (some a) len cap := by
      unfold Value.okWide at hval
      rw [ht] at hval
      cases v <;> simp [Value.cells] at hcs
      case slice => rw [hcs.1, hcs.2.1, hcs.2.2]
      case agg xs => exact absurd hval (by intro hv; have hv' : Cell.okWide P W r b0 t (.agg xs) := hv; unfold Cell.okWide at hv'; rw [ht] at hv'; have h2 : Cell.ok P W r b0 t (.agg xs) := hv'; unfold Cell.ok at h2; rw [ht] at h2; exact h2)
    subst hv
    obtain ⟨h1, h2⟩ := slice_okW ht hval
    obtain ⟨b, off, sp⟩ := a
    obtain rfl : sp = none := h1
    simp only [if_true] at hz
    refine ⟨zs.take len, ⟨by simp, .inr ⟨b, off, cap, by rw [List.length_take, hz, Nat.min_eq_left hl], by simp; omega, hm, fun i u hi => ?_, h2⟩⟩, by simp; omega, fun z hz' => hwz z (List.mem_of_mem_take hz')⟩
    have hil : i < len ∧ i < zs.length := by
      have := (List.getElem?_eq_some_iff.1 hi).1
      simp at this; omega
    have h3 := hcell' i hil.2
    rw [add_plain] at h3
    rw [h3, ← hi]
    simp [hil.1, hil.2]
theorem bytes_of_ints {zs : List Int} (h : ∀ z ∈ zs, (Lit.int .u8 z).wf = true) : ∃ m : List UInt8, zs = m.map fun b => (b.toNat : Int) := by
  refine ⟨zs.map fun z => UInt8.ofNat z.toNat, ?_⟩
  rw [List.map_map]
  conv => lhs; rw [← List.map_id zs]
  refine List.map_congr_left fun z hz => ?_
  have h1 := h z hz
  have h2 : (0 : Int) ≤ z ∧ z ≤ 255 := bounds_u8 h1
  simp; omega
theorem sl_of_bytes {r : Reach} {b0 : Nat} {t e : TypeId} {v : Value} {d : DataW H} {ps : List MemPlace} (ht : P.underlying t = some (.slice e)) (he : P.underlying e = some (.int .u8)) (hc : P.cellsOf e = 1)
    (hval : Value.okWide P W r b0 t v) (hd : DataW.Trod enc P W 0 (fun _ => true) true t v d ps) :
    ∃ m : List UInt8, Sl W 1 v m.length (m.map byv) ∧ m.length ≤ maxLen := by
  obtain ⟨zs, h1, h2, h3⟩ := sl_of_ints ht he hc hval hd
  obtain ⟨m, rfl⟩ := bytes_of_ints h3
  refine ⟨m, ?_, by simpa using h2⟩
  rw [List.map_map, List.length_map] at h1
  exact h1
theorem sl_of_strs {r : Reach} {b0 : Nat} {t e : TypeId} {v : Value} {d : DataW H} {ps : List MemPlace} (ht : P.underlying t = some (.slice e)) (he : P.underlying e = some .string) (hc : P.cellsOf e = 1)
    (hval : Value.okWide P W r b0 t v) (hd : DataW.Trod enc P W 0 (fun _ => true) true t v d ps) :
    ∃ l : List (List UInt8), Sl W 1 v l.length (l.map str) ∧ l.length ≤ maxLen ∧ ∀ s ∈ l, s.length ≤ maxLen := by
  obtain ⟨fuel, hf⟩ := hd
  have hno : ∀ xs, v ≠ .agg xs := by
    intro xs hv; subst hv
    unfold Value.okWide at hval
    rw [ht] at hval
    have hv' : Cell.okWide P W r b0 t (.agg xs) := hval
    unfold Cell.okWide at hv'; rw [ht] at hv'
    have h2 : Cell.ok P W r b0 t (.agg xs) := hv'
    unfold Cell.ok at h2; rw [ht] at h2; exact h2
  rcases Go.Deep.open_strs ht he hc hf with ⟨hcs, _⟩ | ⟨a, len, cap, m, Sx, hcs, _, hl, hm, hmm, _, hx⟩
  · have hv : v = .slice none 0 0 := by
      cases v <;> simp [Value.cells] at hcs
      case slice => rw [hcs.1, hcs.2.1, hcs.2.2]
      case agg xs => exact absurd rfl (hno xs)
    exact ⟨[], ⟨rfl, .inl ⟨hv, rfl⟩⟩, Nat.zero_le _, by simp⟩
  · have hv : v = .slice (some a) len cap := by
      cases v <;> simp [Value.cells] at hcs
      case slice => rw [hcs.1, hcs.2.1, hcs.2.2]
      case agg xs => exact absurd rfl (hno xs)
    subst hv
    obtain ⟨h1, h2⟩ := slice_okW ht hval
    obtain ⟨b, off, sp⟩ := a
    obtain rfl : sp = none := h1
    simp only [if_true] at hmm
    subst hmm
    refine ⟨(List.range len).map fun i => (Sx i).data.toList, ⟨by simp, .inr ⟨b, off, m, by simp, by simp; omega, hm, fun i u hi => ?_, h2⟩⟩, by simp; omega, fun s hs => ?_⟩
    · have hil : i < len := by
        have := (List.getElem?_eq_some_iff.1 hi).1
        simpa using this
      have h3 := (hx i (by omega)).1
      rw [add_plain] at h3
      rw [h3, ← hi]
      simp [hil]
    · obtain ⟨i, hi, rfl⟩ := List.mem_map.1 hs
      have hi' := List.mem_range.1 hi
      exact (hx i (by omega)).2
end
end Go.Own
end
/- top: what the row needs of the program: closed facts. -/
section
namespace Go.Proofs.YtkccmpikeekceaaGreat
open Go.ChangeShapes Go.WideShapes Go.ChangeAt Go.RowKit Go.Own Go.Theory
theorem ownK : ownKnob Tryz.prog.godebug = none := by kernel_rfl
theorem laidOutK : laidOutB Tryz.prog = true := by kernel_rfl
theorem cellsInt : Tryz.prog.cellsOf 3 = 1 := by kernel_rfl
theorem rg_wf {z : Int} (h : (Lit.int .i64 z).wf = true) : rg z := by
  have e1 : IntKind.min .i64 = -9223372036854775808 := by decide
  have e2 : IntKind.max .i64 = 9223372036854775807 := by decide
  simp only [Lit.wf, e1, e2, Bool.and_eq_true, decide_eq_true_eq] at h
  exact h
end Go.Proofs.YtkccmpikeekceaaGreat
end
