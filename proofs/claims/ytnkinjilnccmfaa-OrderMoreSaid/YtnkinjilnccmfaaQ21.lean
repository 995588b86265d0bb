/- order: the program's closure that builds a set. -/
import Derived.Test.YtnkinjilnccmfaaQ20
import Derived.Deep.CutBlock
import Derived.Deep.DeepCutAuto
namespace Go.Proofs.Ytnkinjilnccmfaa
open Go.RowKit Go.Own Go.BigFrame Go.Big Go.Order
structure BdQ (V : World) (may : List Spl) (st : List Int) (gf go gm K gk gb m : Nat) (w : World) (e : Ending) (w' : World) : Prop where
  val : e = .returned (.tuple #[bv (bb may st m), .bool (decide (0 ≤ (bb may st m).2))])
  ext : ExtK K may st w w'
  st' : BdW V w' may st gf go gm K gk gb
theorem lookK {w : World} {K : Nat} {f : Int → Option Value} (h : MapV w K f) (k : Int) : (Instr.lookup 94 (.map (some K)) (.int .i64 k) true).run Try.prog w = .ok (.tuple #[(f k).getD (.agg #[.int .i64 0, .int .i64 0]), .bool (f k).isSome]) w := by
  have := h.look (P := Try.prog) hTknown hKset (zeroBest w) k true
  rw [this]; rfl
theorem lookO {w : World} {O : Nat} {f : Int → Option Value} (h : MapV w O f) (k : Int) : (Instr.lookup 93 (.map (some O)) (.int .i64 k) false).run Try.prog w = .ok ((f k).getD (.slice none 0 0)) w := by
  have := h.look (P := Try.prog) hTof hKset (zeroInts w) k false
  rw [this]; rfl
attribute [local irreducible] SqC.SqW SqW
set_option maxRecDepth 100000 in
set_option maxHeartbeats 6400000 in
theorem build_met {V : World} {may : List Spl} {st : List Int} {s : Option Addr} {ca gf go gm F O K gk gb : Nat} (S : BdS V may st s ca gf go gm F O K gk gb) (m : Nat) (w : World) (hw : BdW V w may st gf go gm K gk gb)
    (f : Int → Option Value) (hf : MapV w K f) (hv : f m = some (bv (bb may st m))) :
    Calls Try.prog 64 #[.int .i64 (m : Int), .pointer (some ⟨gk, 0, none⟩), .pointer (some ⟨gf, 0, none⟩), .pointer (some ⟨go, 0, none⟩), .pointer (some ⟨gb, 0, none⟩), .pointer (some ⟨gm, 0, none⟩)] w fun e w' => BdQ V may st gf go gm K gk gb m w e w' := by
  obtain ⟨W0, hW0⟩ : ∃ W0, W0 = w.alloc (.cells #[.int .i64 0, .int .i64 0] 69) := ⟨_, rfl⟩
  have z0 : W0.heap.size = w.heap.size + 1 := by rw [hW0]; exact alloc_size _ _
  have b0 : Below w.heap.size w W0 := by rw [hW0]; exact alloc_below _ _
  have hgk : W0.cell? ⟨gk, 0, none⟩ = some (.map (some K)) := (hw.low b0).ck
  have hl := lookK (hf.below b0) (m : Int)
  rw [hv] at hl
  have hq : ∀ w', ExtK K may st w w' → BdW V w' may st gf go gm K gk gb → BdQ V may st gf go gm K gk gb m w (.returned (.tuple #[bv (bb may st m), .bool (decide (0 ≤ (bb may st m).2))])) w' := fun w' h1 h2 => ⟨rfl, h1, h2⟩
  obtain ⟨b, hb⟩ : ∃ b, b = bb may st m := ⟨_, rfl⟩
  rw [← hb] at hl hq
  obtain ⟨b1, b2⟩ := b
  simp only [bv, Option.getD_some, Option.isSome_some] at hl hq
  have hr0 : Blk W0 w.heap.size [.int .i64 0, .int .i64 0] 69 := by rw [hW0]; exact Blk.new w #[.int .i64 0, .int .i64 0] 69
  obtain ⟨W1, hW1⟩ : ∃ W1, W1 = W0.alloc (.cells #[.int .i64 b1, .int .i64 b2] 69) := ⟨_, rfl⟩
  have b01 : Below W0.heap.size W0 W1 := by rw [hW1]; exact alloc_below _ _
  have hr1 := hr0.below b01 hr0.lt
  have ht1 : Blk W1 (w.heap.size + 1) [.int .i64 b1, .int .i64 b2] 69 := by
    have : Blk W1 W0.heap.size [.int .i64 b1, .int .i64 b2] 69 := by rw [hW1]; exact Blk.new W0 #[.int .i64 b1, .int .i64 b2] 69
    rwa [z0] at this
  have bw1 : Below w.heap.size w W1 := b0.trans (b01.mono b0.size)
  have hcell : ∀ U, Chg [w.heap.size] W1 U → U.cell? ⟨w.heap.size + 1, 1, none⟩ = some (.int .i64 b2) ∧ (loadVar 69 ⟨w.heap.size + 1, 0, none⟩).run Try.prog U = .ok (.agg #[.int .i64 b1, .int .i64 b2]) U := fun U hU =>
    have h := ht1.chg hU (by simp)
    ⟨h.cell rfl, run_load_agg (P := Try.prog) (ty := 69) (vs := [.int .i64 b1, .int .i64 b2]) h.cells0 aggB infoB⟩
  rw [hW0] at hgk hl
  have HQ := Lib.hid hq; clear hq hb
  have HCE := Lib.hid hcell; clear hcell
  have HR1 := Lib.hid hr1; clear hr1 hr0
  have BW1 := Lib.hid bw1; clear bw1 b0 b01 ht1
  have HW0 := Lib.hid hW0; clear hW0
  have HW1 := Lib.hid hW1; clear hW1
  have HS := Lib.hid S; clear S
  have HW := Lib.hid hw; clear hw hf hv z0
  go_enter Try.func64, Try.ntmps64
  go_wp2
  rw [← HW0.out, ← HW1.out]
  clear hgk hl
  have eX : Chg [w.heap.size] W1 W1.drew := (Chg.refl _ _).drew
  haveI : Nonempty (SqC.Come fun U : World => Chg [w.heap.size] W1 U) := ⟨⟨_, eX⟩⟩
  refine SqC.wp_region_sqc 6 [4] (fun U : World => Chg [w.heap.size] W1 U) (by kernel_rfl) (by kernel_rfl) (by kernel_rfl) eX ?_
  have hr1 : Blk W1.drew w.heap.size [.int .i64 0, .int .i64 0] 69 := HR1.out.drew
  have bwd : Below w.heap.size w W1.drew := BW1.out.drew
  obtain ⟨wd, hwd⟩ : ∃ wd : World, wd = W1.drew := ⟨_, rfl⟩
  rw [← hwd] at eX hr1 bwd ⊢
  clear hwd
  refine SqC.value (.agg #[.int .i64 b1, .int .i64 b2]) rfl rfl (fun U hU => load_agg_exec rfl rfl (HCE.out U hU).2) ?_
  simp only [Act.put, List.setIfInBounds_toArray, List.set_cons_zero, List.set_cons_succ]
  refine SqC.quiet rfl rfl ?_; go_big_quiet_step (fail); refine wpQuiet_nil ?_
  refine SqC.value (.int .i64 b2) rfl rfl (by intro U hU; have cx := (HCE.out U hU).1; go_simp) ?_
  simp only [Act.put, List.setIfInBounds_toArray, List.set_cons_zero, List.set_cons_succ]
  refine SqC.value (.bool (decide (0 ≤ b2))) rfl rfl (by intro U hU; go_simp) ?_
  simp only [Act.put, List.setIfInBounds_toArray, List.set_cons_zero, List.set_cons_succ]
  refine SqC.effectW rfl rfl ?_
  refine wpList_store_blk (ty := 69) (n := 2) (vs := [.int .i64 b1, .int .i64 b2]) hr1 rfl rfl rfl rfl rfl infoB rfl (by simp) (by intro u hu; simp at hu; rcases hu with hu | hu <;> (subst hu; rfl)) ?_
  intro wz z1 z2
  have z1' : Blk wz w.heap.size [.int .i64 b1, .int .i64 b2] 69 := z1
  have bz : Below w.heap.size w wz := z2.below bwd (Nat.le_refl _)
  have ez : Chg [w.heap.size] W1 wz := eX.trans (Chg.of_oth z2 (by simp))
  have Z1 := Lib.hid z1'; clear z1' z1 z2 bwd hr1
  have BZ := Lib.hid bz; clear bz
  have EZ := Lib.hid ez; clear ez eX
  go_wp2
  refine SqC.here rfl (fun _ => EZ.out) ?_
  refine SqC.quiet rfl rfl ?_; go_big_quiet_step (fail); refine wpQuiet_nil ?_
  refine SqC.nil ?_
  go_wp2
  refine bodyPost_ret (results_ct rfl rfl (run_load_agg (P := Try.prog) (ty := 69) Z1.out.cells0 aggB infoB)) rfl ?_
  exact HQ.out wz (ExtK.of BZ.out) (HW.out.low BZ.out)
end Go.Proofs.Ytnkinjilnccmfaa
