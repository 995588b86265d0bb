/- OrderMore of package sherdlaw27: the row: for every input the law returns true and leaves its arguments alone. Conditions: the row's own, nothing more. -/
import Derived.Test.YtnkinjilnccmfaaG8
namespace Go.Proofs.Ytnkinjilnccmfaa
open Go.ChangeShapes Go.WideShapes Go.ChangeAt Go.WideMaps Go.WideElems Go.RowKit Go.Own Go.ChangeMaps Go.Order
section
variable {H : Type} {enc : TypeId × Value → H} {W : World}
set_option maxRecDepth 100000 in
/-- a split handed over by value -/
theorem spl_arg {b0 : Nat} {r : Reach} {v : Value} {d : DataW H} {ps : List MemPlace} (hval : Value.okWide Try.prog W r b0 58 v) (h : DataW.Trod enc Try.prog W 0 (fun _ => true) true 58 v d ps) {R : Nat} (h8 : R ≤ 140737488351232) (hR : ∀ n ∈ d.weights Try.prog 58, n ≤ R) :
    ∃ x : Spl, v = x.v ∧ x.At W := by
  obtain ⟨cs, rfl, hsz⟩ := okWide_struct Try.underlying58 hval
  obtain ⟨fuel, hf⟩ := h
  have hf' : DataW.trod enc Try.prog W 0 (fun _ => true) true fuel 58 cs.toList = some (d, ps) := by simpa [Value.cells] using hf
  obtain ⟨x, hx, wa, wb, wc, wd⟩ := spl_of_cells (by rw [Array.length_toList]; exact hsz.trans cells58) hf' hR
  have k : ∀ z : Num, Nw W R z → z.At W := fun z hz => ⟨hz.1, by have := hz.2; show _ ≤ 17592186043904; omega⟩
  exact ⟨x, by unfold Spl.v; rw [← hx], ⟨k _ wa, k _ wb, k _ wc, k _ wd⟩⟩
end
set_option maxRecDepth 100000 in
theorem orderMore_lifted (os : Os) (started : os.Started) (H : Type) (enc : TypeId × Value → H) :
    ReturnsInHanded {} Try.checked os 8 .any (Rows.orderMoreSpec.pre6 enc Try.prog Try.f8 Rows.orderMoreRow.domain false) (Rows.orderMoreSpec.post enc Try.prog Try.f8 false true false false) := by
  refine returnsInHanded_of_change_sized (C := Try.checked) ownK started (by kernel_rfl) Try.func8
    (ChangeSpec.witness6 (enc := enc) (C := Try.checked) false ⟨#[], #[.int .i64 0, .slice none 0 0, .slice none 0 0, .agg #[.int .i64 0, .int .i64 0, .bool false, .slice none 0 0, .bool false, .slice none 0 0, .bool false, .slice none 0 0, .bool false, .slice none 0 0], .int .i64 0], []⟩ 8 (by kernel_rfl) (by kernel_rfl) (by kernel_rfl) (by kernel_rfl)) ?_
  intro W base args ds gs before hval0 hW hcnd hwt hSz
  have hval : ∀ (j : Nat) t v, Try.f8.params[j]? = some t → args[j]? = some v → Value.okWide Try.prog W .any base t v := hval0
  have hW' := hW
  obtain ⟨p, q, hA0, hV, rfl, hfz, hnd⟩ := hW
  have hA : DataW.TrodAll enc Try.prog W 0 (fun _ => true) true Try.f8.params.toList args.toList ds p := hA0
  have hwt2 : (DataW.weightsEach Try.prog (Try.f8.params.toList ++ Rows.orderMoreSpec.plain.varTypes Try.prog) (ds ++ gs)).all (· ≤ reachBytes) = true := hwt
  rw [Try.params8] at hA hval hwt2
  obtain ⟨v0, vs0, d0, ds0, p0, q0, ha0, rfl, rfl, h0, r0⟩ := trodAll_cons hA
  obtain ⟨v1, vs1, d1, ds1, p1, q1, ha1, rfl, rfl, h1, r1⟩ := trodAll_cons r0
  obtain ⟨v2, vs2, d2, ds2, p2, q2, ha2, rfl, rfl, h2, r2⟩ := trodAll_cons r1
  obtain ⟨v3, vs3, d3, ds3, p3, q3, ha3, rfl, rfl, h3, r3⟩ := trodAll_cons r2
  obtain ⟨v4, vs4, d4, ds4, p4, q4, ha4, rfl, rfl, h4, r4⟩ := trodAll_cons r3
  obtain ⟨e1, rfl, rfl⟩ := trodAll_nil r4
  have hargs : args = #[v0, v1, v2, v3, v4] := by
    rw [e1] at ha4
    rw [ha4] at ha3
    rw [ha3] at ha2
    rw [ha2] at ha1
    rw [ha1] at ha0
    exact Array.toList_inj.1 ha0
  subst hargs
  obtain ⟨rfl, rfl⟩ := trodVars_none hV
  have k0 := hval 0 22 v0 rfl rfl
  obtain ⟨z0, hz0, _, _, wf0⟩ := open_int Try.underlying22 k0 h0
  subst hz0
  have k1 := hval 1 23 v1 rfl rfl
  have hR1 : ∀ n ∈ d1.weights Try.prog 23, n ≤ reachBytes := fun n hn => by
    have := List.all_eq_true.1 hwt2 n (DataW.weights_mem_each (j := 1) rfl rfl n hn)
    exact of_decide_eq_true this
  obtain ⟨l1, s1, c1, hv1, m1, b1⟩ := lst_of k1 h1 (Nat.le_refl _) hR1
  subst hv1
  have k2 := hval 2 24 v2 rfl rfl
  obtain ⟨l2, s2, c2, hv2, m2, b2⟩ := sets_of k2 h2
  subst hv2
  have k3 := hval 3 58 v3 rfl rfl
  have hR3 : ∀ n ∈ d3.weights Try.prog 58, n ≤ reachBytes := fun n hn => by
    have := List.all_eq_true.1 hwt2 n (DataW.weights_mem_each (j := 3) rfl rfl n hn)
    exact of_decide_eq_true this
  obtain ⟨x3, hv3, m3⟩ := spl_arg k3 h3 (Nat.le_refl _) hR3
  subst hv3
  have k4 := hval 4 22 v4 rfl rfl
  obtain ⟨z4, hz4, _, _, wf4⟩ := open_int Try.underlying22 k4 h4
  subst hz4
  clear hA0 hval0
  have hreach : reachBytes = 140737488351232 := rfl
  have hw := orderMore_any z0 z4 l1 x3 l2 s1 s2 c1 c2 W m1 m2 m3 (by omega)
  refine hw.mono fun e W' ⟨he, hb⟩ => ?_
  subst he
  exact ⟨_, rfl, law_post laidOutK (by kernel_rfl) (show Try.f8.resultTypes = #[4] by kernel_rfl) Try.underlying4 rfl ⟨rfl, rfl, rfl⟩ hW' hb⟩
/-- The row. -/
theorem orderMore_holds : Rows.OrderMoreSaid :=
  OpenClaim.holds_of_wide 8 Try.f8 rfl rfl rfl rfl rfl rfl rfl ⟨rfl, rfl, rfl, rfl, rfl⟩ rfl rfl rfl rfl rfl (by kernel_rfl) Try.func8 (by kernel_rfl)
    (of_decide_eq_true (by kernel_rfl)) (by unfold Func.isWrapper; first | (rw [if_pos (by decide +kernel)]; kernel_rfl) | (rw [if_neg (by decide +kernel)]; exact ⟨rfl, rfl⟩))
    (fun os started H enc _ => orderMore_lifted os started H enc)
#print axioms orderMore_holds
end Go.Proofs.Ytnkinjilnccmfaa
