/- order: the program's closure that builds a set, where it is not known. -/
import Derived.Test.YtnkinjilnccmfaaQ21
import Derived.Test.YtnkinjilnccmfaaSqS
namespace Go.Proofs.Ytnkinjilnccmfaa
open Go.RowKit Go.Own Go.BigFrame Go.Big Go.Order
/-- within a call of build -/
structure BdJ (V w : World) (may : List Spl) (st : List Int) (gf go gm K gk gb : Nat) (b1 b2 : Int) (u : World) : Prop where
  w0 : BdW V w may st gf go gm K gk gb
  bw : BdW V u may st gf go gm K gk gb
  ext : ExtK K may st w u
  r : Blk u w.heap.size [.int .i64 0, .int .i64 0] 69
  b : Blk u (w.heap.size + 1 + 1) [.int .i64 b1, .int .i64 b2] 69
theorem BdJ.step {V w : World} {may : List Spl} {st : List Int} {s : Option Addr} {ca gf go gm F O K gk gb : Nat} {b1 b2 : Int} {u u' : World} (S : BdS V may st s ca gf go gm F O K gk gb) (h : BdJ V w may st gf go gm K gk gb b1 b2 u) (hx : ExtK K may st u u') : BdJ V w may st gf go gm K gk gb b1 b2 u' :=
  ⟨h.w0, h.bw.ext S hx, (h.ext).trans _ _ _ _ _ _ hx, h.r.chg hx.1 (by have := h.w0.kn.lt; simp; omega), h.b.chg hx.1 (by have := h.w0.kn.lt; simp; omega)⟩
theorem BdJ.oth {V w : World} {may : List Spl} {st : List Int} {gf go gm K gk gb : Nat} {b1 b2 : Int} {u u' : World} {g : Nat} (h : BdJ V w may st gf go gm K gk gb b1 b2 u) (ho : Oth g u u') (hg : w.heap.size + 1 + 1 < g) : BdJ V w may st gf go gm K gk gb b1 b2 u' := by
  have c : Chg [g] u u' := Chg.of_oth ho (by simp)
  have k1 := World.block_lt_of_cell? _ _ h.w0.ck
  have k2 := World.block_lt_of_cell? _ _ h.w0.cb
  have k3 := h.w0.kn.lt
  have k4 := h.w0.below.size
  dsimp only at k1 k2
  exact ⟨h.w0, ⟨h.bw.below.trans (c.below h.bw.below.size (by simp; omega)), c.cell h.bw.ck (by simp; omega), c.cell h.bw.cb (by simp; omega), h.bw.kn.chg c (by simp; omega)⟩,
    ⟨Chg.oth_new h.ext.1 ho (by omega), fun x => (h.ext.2 x).chg c (by simp; omega)⟩, h.r.chg c (by simp; omega), h.b.chg c (by simp; omega)⟩
theorem BdJ.set {V w : World} {may : List Spl} {st : List Int} {gf go gm K gk gb : Nat} {b1 b2 c1 c2 : Int} {u u' : World} (h : BdJ V w may st gf go gm K gk gb b1 b2 u) (ho : Oth (w.heap.size + 1 + 1) u u') (hB : Blk u' (w.heap.size + 1 + 1) [.int .i64 c1, .int .i64 c2] 69) : BdJ V w may st gf go gm K gk gb c1 c2 u' := by
  have c : Chg [w.heap.size + 1 + 1] u u' := Chg.of_oth ho (by simp)
  have k1 := World.block_lt_of_cell? _ _ h.w0.ck
  have k2 := World.block_lt_of_cell? _ _ h.w0.cb
  have k3 := h.w0.kn.lt
  have k4 := h.w0.below.size
  dsimp only at k1 k2
  exact ⟨h.w0, ⟨h.bw.below.trans (c.below h.bw.below.size (by simp; omega)), c.cell h.bw.ck (by simp; omega), c.cell h.bw.cb (by simp; omega), h.bw.kn.chg c (by simp; omega)⟩,
    ⟨Chg.oth_new h.ext.1 ho (by omega), fun x => (h.ext.2 x).chg c (by simp; omega)⟩, h.r.chg c (by simp; omega), hB⟩
theorem yields_store_two {P : Program} {o : Oper} {ρ : Operand → Value} {w : World} {R : Value → World → Prop} {g : Nat} {c : List Value} {t ty : TypeId} {x y : Operand} {v1 v2 : Value}
    (hB : Blk w g c t) (hc : c.length = 2) (ho : o.op = .store ty x y) (hx : ρ x = .pointer (some ⟨g, 0, none⟩)) (hy : ρ y = .agg #[v1, v2]) (hi : (P.info? ty).map (·.size) = some 2) (h1 : v1.oneCell' = true) (h2 : v2.oneCell' = true)
    (h : ∀ w', Blk w' g [v1, v2] t → Oth g w w' → R undef w') : Own.Yields P o ρ w R := by
  have hr := run_storeVar_blk (P := P) (ty := ty) (vs := [v1, v2]) (off := 0) hB hi rfl (by omega) (by intro v hv; simp at hv; rcases hv with hv | hv <;> (subst hv; assumption))
  have e : c.take 0 ++ [v1, v2] ++ c.drop (0 + 2) = [v1, v2] := by rw [List.drop_of_length_le (by omega)]; rfl
  rw [e] at hr
  unfold Own.Yields execOp
  simp only [ho, hx, hy, Instr.storeAt, Instr.sureAddr, Sem.run_bind, Sem.run_pure, Result.andThen_ok]
  simp only [List.toArray] at hr
  rw [hr]
  exact h _ (blk_setRow hB) oth_setRow
theorem ptr_inj {R R' : Nat} (h : Value.pointer (some ⟨R, 0, none⟩) = .pointer (some ⟨R', 0, none⟩)) : R' = R := by
  injection h with h; injection h with h; injection h with h; exact h.symm
/-- worlds within a region that fills a new block -/
structure ExtS (base K : Nat) (may : List Spl) (st : List Int) (x : List Value) (w w' : World) : Prop where
  os : w'.os = w.os
  tape : w'.tape = w.tape
  output : w'.output = w.output
  size : w.heap.size ≤ w'.heap.size
  block : ∀ k, k < base → k ≠ K → w'.heap[k]? = w.heap[k]?
  kn : KnM w K may st → KnM w' K may st
  shape : ∀ R, base ≤ R → ∀ c, Blk w R c 69 → Blk w' R c 69 ∨ (c = [.int .i64 0, .int .i64 0] ∧ Blk w' R x 69)
theorem ExtS.refl (base K : Nat) (may : List Spl) (st : List Int) (x : List Value) (w : World) : ExtS base K may st x w w := ⟨rfl, rfl, rfl, Nat.le_refl _, fun _ _ _ => rfl, id, fun _ _ _ h => .inl h⟩
theorem ExtS.trans (base K : Nat) (may : List Spl) (st : List Int) (x : List Value) (a b c : World) (h : ExtS base K may st x a b) (k : ExtS base K may st x b c) : ExtS base K may st x a c :=
  ⟨k.os.trans h.os, k.tape.trans h.tape, k.output.trans h.output, Nat.le_trans h.size k.size, fun i hi hn => (k.block i hi hn).trans (h.block i hi hn), fun y => k.kn (h.kn y), fun R hR y hy => by
    rcases h.shape R hR y hy with h1 | ⟨h1, h2⟩
    · exact k.shape R hR y h1
    · rcases k.shape R hR x h2 with h3 | ⟨h3, h4⟩
      · exact .inr ⟨h1, h3⟩
      · exact .inr ⟨h1, h4⟩⟩
theorem ExtS.of {base K : Nat} {may : List Spl} {st : List Int} {x : List Value} {w w' : World} (h : ExtK K may st w w') (hb : base ≤ w.heap.size) (hK : K < base) : ExtS base K may st x w w' :=
  ⟨h.1.os, h.1.tape, h.1.output, h.1.size, fun i hi hn => h.1.block i (by omega) (by simpa using hn), h.2, fun R hR c hc => .inl (hc.chg h.1 (by simp; omega))⟩
theorem ExtS.ext {K : Nat} {may : List Spl} {st : List Int} {x : List Value} {w w' : World} (h : ExtS w.heap.size K may st x w w') : ExtK K may st w w' :=
  ⟨⟨h.os, h.tape, h.output, h.size, fun i hi hn => h.block i hi (by simpa using hn)⟩, h.kn⟩
instance (base K : Nat) (may : List Spl) (st : List Int) (x : List Value) (w : World) : Nonempty (Grown (ExtS base K may st x) w) := ⟨⟨w, ExtS.refl _ _ _ _ _ w⟩⟩
/-- the block is filled -/
theorem ExtS.fill {base K R : Nat} {may : List Spl} {st : List Int} {x c : List Value} {w w' : World} (hR : base ≤ R) (hK : K < base) (hB : Blk w R c 69) (hc : c = [.int .i64 0, .int .i64 0] ∨ c = x) (ho : Oth R w w') (hB' : Blk w' R x 69) : ExtS base K may st x w w' := by
  have e : Chg [R] w w' := Chg.of_oth ho (by simp)
  refine ⟨e.os, e.tape, e.output, e.size, fun i hi hn => ho.block i (by omega), fun h => h.chg e (by simp; omega), fun Q hQ y hy => ?_⟩
  by_cases hq : Q = R
  · subst hq
    have : y = c := by
      unfold Blk at hy hB
      rw [hy] at hB
      have h1 := Option.some.inj hB
      injection h1 with h2
      have := congrArg Array.toList h2
      simpa using this
    subst this
    rcases hc with h | h
    · exact .inr ⟨h, hB'⟩
    · subst h; exact .inl hB'
  · exact .inl (ho.blk (by omega) hy)
/-- where it begins -/
def start (st : List Int) (m : Nat) : Int × Int := if hasB st (m : Int) then b0 m else (-1, -1)
theorem sqw_nil {P : Program} {l : List Oper} {ps : List Nat} {Ext : World → World → Prop} {w0 : World} {Post : Nat → Value → World → Prop} {Fin : Act → Prop} {k : Nat} {a : Act} (h : Fin a) : SqW P l ps Ext w0 Post Fin k [] a := h
theorem BdJ.fin {V w : World} {may : List Spl} {st : List Int} {gf go gm K gk gb : Nat} {b1 b2 : Int} {u u' : World} (h : BdJ V w may st gf go gm K gk gb b1 b2 u) (ho : Oth w.heap.size u u') : ExtK K may st w u' ∧ BdW V u' may st gf go gm K gk gb := by
  have c : Chg [w.heap.size] u u' := Chg.of_oth ho (by simp)
  have k1 := World.block_lt_of_cell? _ _ h.w0.ck
  have k2 := World.block_lt_of_cell? _ _ h.w0.cb
  have k3 := h.w0.kn.lt
  have k4 := h.w0.below.size
  dsimp only at k1 k2
  exact ⟨⟨Chg.oth_new h.ext.1 ho (by omega), fun x => (h.ext.2 x).chg c (by simp; omega)⟩, ⟨h.bw.below.trans (c.below h.bw.below.size (by simp; omega)), c.cell h.bw.ck (by simp; omega), c.cell h.bw.cb (by simp; omega), h.bw.kn.chg c (by simp; omega)⟩⟩
attribute [local irreducible] SqC.SqW SqS.SqW
set_option maxRecDepth 100000 in
set_option maxHeartbeats 12800000 in
theorem build_new {V : World} {may : List Spl} {st : List Int} {s : Option Addr} {ca gf go gm F O K gk gb : Nat} (S : BdS V may st s ca gf go gm F O K gk gb) (m : Nat) (hm : m < 65536)
    (ih : ∀ m' : Nat, m' < m → ∀ u : World, BdW V u may st gf go gm K gk gb → Calls Try.prog 64 #[.int .i64 (m' : Int), .pointer (some ⟨gk, 0, none⟩), .pointer (some ⟨gf, 0, none⟩), .pointer (some ⟨go, 0, none⟩), .pointer (some ⟨gb, 0, none⟩), .pointer (some ⟨gm, 0, none⟩)] u fun e w' => BdQ V may st gf go gm K gk gb m' u e w')
    (w : World) (hw : BdW V w may st gf go gm K gk gb) (f : Int → Option Value) (hf : MapV w K f) (hv : f m = none) :
    Calls Try.prog 64 #[.int .i64 (m : Int), .pointer (some ⟨gk, 0, none⟩), .pointer (some ⟨gf, 0, none⟩), .pointer (some ⟨go, 0, none⟩), .pointer (some ⟨gb, 0, none⟩), .pointer (some ⟨gm, 0, none⟩)] w fun e w' => BdQ V may st gf go gm K gk gb m w e w' := by
  obtain ⟨W0, hW0⟩ : ∃ W0, W0 = w.alloc (.cells #[.int .i64 0, .int .i64 0] 69) := ⟨_, rfl⟩
  obtain ⟨W1, hW1⟩ : ∃ W1, W1 = W0.alloc (.cells #[.int .i64 0, .int .i64 0] 69) := ⟨_, rfl⟩
  obtain ⟨W2, hW2⟩ : ∃ W2, W2 = W1.alloc (.cells #[.int .i64 (-1), .int .i64 (-1)] 69) := ⟨_, rfl⟩
  have z0 : W0.heap.size = w.heap.size + 1 := by rw [hW0]; exact alloc_size _ _
  have z1 : W1.heap.size = w.heap.size + 1 + 1 := by rw [hW1, alloc_size, z0]
  have b0' : Below w.heap.size w W0 := by rw [hW0]; exact alloc_below _ _
  have b01 : Below W0.heap.size W0 W1 := by rw [hW1]; exact alloc_below _ _
  have b12 : Below W1.heap.size W1 W2 := by rw [hW2]; exact alloc_below _ _
  have b02 : Below W0.heap.size W0 W2 := b01.trans (b12.mono b01.size)
  have bw2 : Below w.heap.size w W2 := b0'.trans (b02.mono b0'.size)
  have hgk : W0.cell? ⟨gk, 0, none⟩ = some (.map (some K)) := (hw.low b0').ck
  have hl := lookK (hf.below b0') (m : Int)
  rw [hv] at hl
  simp only [Option.getD_none, Option.isSome_none] at hl
  have hr : Blk W2 w.heap.size [.int .i64 0, .int .i64 0] 69 := (by rw [hW0]; exact Blk.new w #[.int .i64 0, .int .i64 0] 69 : Blk W0 w.heap.size [.int .i64 0, .int .i64 0] 69).below b02 (by omega)
  have hB : Blk W2 (w.heap.size + 1 + 1) [.int .i64 (-1), .int .i64 (-1)] 69 := by
    have : Blk W2 W1.heap.size [.int .i64 (-1), .int .i64 (-1)] 69 := by rw [hW2]; exact Blk.new W1 #[.int .i64 (-1), .int .i64 (-1)] 69
    rwa [z1] at this
  have hJ2 : BdJ V w may st gf go gm K gk gb (-1) (-1) W2 := ⟨hw, hw.low bw2, ExtK.of bw2, hr, hB⟩
  have hgf : W2.cell? ⟨gf, 0, none⟩ = some (.map (some F)) := (hJ2.bw.below.cell (p := ⟨gf, 0, none⟩) (World.block_lt_of_cell? _ _ S.cfirm)).trans S.cfirm
  have hlf := lookB (S.firm.below hJ2.bw.below) (m : Int)
  have hsz := size_any (m : Int) W2
  rw [siz_nat m hm] at hsz
  have hq0 : ∀ w', ExtK K may st w w' → BdW V w' may st gf go gm K gk gb → BdQ V may st gf go gm K gk gb m w (.returned (.tuple #[bv (bb may st m), .bool (decide (0 ≤ (bb may st m).2))])) w' := fun w' h1 h2 => ⟨rfl, h1, h2⟩
  rw [hW2, hW1, hW0] at hgf hlf
  rw [hW0] at hgk hl
  have hsoft := fun h => bb_soft (may := may) (st := st) S.ok hm h
  have hfirm := fun h => bb_firm (may := may) (st := st) S.ok hm h
  obtain ⟨fb, hfb⟩ : ∃ b, b = hasB st (m : Int) := ⟨_, rfl⟩
  have hstart : start st m = if fb = true then b0 m else (-1, -1) := by rw [hfb]; rfl
  rw [← hfb] at hlf hsoft hfirm
  have HFB := Lib.hid hfb; clear hfb
  have HSOFT := Lib.hid hsoft; clear hsoft
  have HFIRM := Lib.hid hfirm; clear hfirm
  have HSTART := Lib.hid hstart; clear hstart
  have HQ0 := Lib.hid hq0; clear hq0
  have HJ2 := Lib.hid hJ2; clear hJ2
  have HSZ := Lib.hid hsz; clear hsz
  have HW0 := Lib.hid hW0; clear hW0
  have HW1 := Lib.hid hW1; clear hW1
  have HW2 := Lib.hid hW2; clear hW2
  have HS := Lib.hid S; clear S
  have HW := Lib.hid hw; clear hw
  have HM := Lib.hid hm; clear hm
  have IH := Lib.hid ih; clear ih
  clear z0 z1 b0' b01 b12 b02 bw2 hr hB
  have HMF := Lib.hid hf; clear hf
  have HMV := Lib.hid hv; clear hv
  go_enter Try.func64, Try.ntmps64
  go_upto_region 5 with fail
  rw [← HW0.out, ← HW1.out, ← HW2.out]
  rw [← HW0.out, ← HW1.out, ← HW2.out] at hgf hlf
  clear hgk hl
  obtain ⟨c, hc⟩ : ∃ c, c = (fb && decide (Go.Theory.pop m = 1)) := ⟨_, rfl⟩
  have HC := Lib.hid hc; clear hc
  go_cut [38] (fun v38 wx => v38 = .bool c ∧ wx = W2)
  case first =>
    cases fb with
    | false =>
      go_wp2
      go_meet
      case rel => exact ⟨by rw [HC.out]; rfl, rfl⟩
    | true =>
      by_cases hp1 : Go.Theory.pop m = 1
      · have HP := Lib.hid hp1
        have e1 : (((Go.Theory.pop m : Nat) : Int) == 1) = true := by rw [hp1]; rfl
        have e2 : (((Go.Theory.pop m : Nat) : Int) = 1) = True := eq_true (by omega)
        clear hp1
        go_wp2_with (fail)
        refine HSZ.out.mono ?_
        rintro e w2 ⟨rfl, h⟩
        have h2 := h.symm; clear h; subst h2
        go_wp2
        go_meet
        case rel => exact ⟨by rw [HC.out, decide_eq_true HP.out]; rfl, rfl⟩
      · have HP := Lib.hid hp1
        have e1 : (((Go.Theory.pop m : Nat) : Int) == 1) = false := by rw [beq_eq_false_iff_ne]; omega
        have e2 : (((Go.Theory.pop m : Nat) : Int) = 1) = False := eq_false (by omega)
        clear hp1
        go_wp2_with (fail)
        refine HSZ.out.mono ?_
        rintro e w2 ⟨rfl, h⟩
        have h2 := h.symm; clear h; subst h2
        go_wp2
        go_meet
        case rel => exact ⟨by rw [HC.out, decide_eq_false HP.out]; rfl, rfl⟩
  case rest =>
  obtain ⟨rfl, h⟩ := hcut
  have h2 := h.symm; clear h; subst h2
  clear hgf hlf
  go_upto_if 38 with fail
  go_cut [11] (fun v11 wx => v11 = .pointer (some ⟨w.heap.size + 1 + 1, 0, none⟩) ∧ BdJ V w may st gf go gm K gk gb (start st m).1 (start st m).2 wx)
  case first =>
    cases c with
    | false =>
      have hst : start st m = (-1, -1) := by
        rw [HSTART.out]
        cases fb with
        | false => rfl
        | true =>
          rw [if_pos rfl]; unfold b0; rw [if_neg]
          intro h
          have := HC.out
          rw [h] at this
          exact absurd this (by decide)
      have HST := Lib.hid hst; clear hst
      go_wp2
      go_meet
      case rel => exact ⟨rfl, by rw [HST.out]; exact HJ2.out⟩
    | true =>
      have hst : start st m = (-1, 0) := by
        have h := HC.out.symm
        rw [Bool.and_eq_true, decide_eq_true_eq] at h
        rw [HSTART.out, if_pos h.1]; unfold b0; rw [if_pos h.2]
      have HST := Lib.hid hst; clear hst
      go_wp2_with (refine wpList_store1 (ty := 3) (off := 1) (v := .int .i64 0) HJ2.out.b rfl rfl rfl rfl rfl infoInt1 rfl (by simp) rfl ?_)
      intro W3 s1 s2
      have hJ3 : BdJ V w may st gf go gm K gk gb (-1) 0 W3 := HJ2.out.set s2 s1
      have HJ3 := Lib.hid hJ3; clear hJ3 s1 s2
      go_wp2
      go_meet
      case rel => exact ⟨rfl, by rw [HST.out]; exact HJ3.out⟩
  case rest =>
    obtain ⟨rfl, hJ⟩ := hcut
    obtain ⟨w5, rfl⟩ : ∃ w5 : World, w5 = wc := ⟨_, rfl⟩
    have hgo : w5.cell? ⟨go, 0, none⟩ = some (.map (some O)) := (hJ.bw.below.cell (p := ⟨go, 0, none⟩) (World.block_lt_of_cell? _ _ HS.out.cof)).trans HS.out.cof
    obtain ⟨fo, hfo, hfo2⟩ := HS.out.of
    obtain ⟨sa, cap, e1, hsl⟩ := hfo2 m
    have hlo := lookO (hfo.below hJ.bw.below) (m : Int)
    rw [e1] at hlo
    have hixl := idx_len may (m : Int)
    have hstep := fun (k : Nat) (hk : k < (idx may (m : Int)).length) (b1 b2 : Int) (hb : foldK may st m k = (b1, b2)) => foldK_step (st := st) HS.out.ok hk hb
    have hfirm := HFIRM.out
    obtain ⟨ix, hix⟩ : ∃ ix, ix = idx may (m : Int) := ⟨_, rfl⟩
    simp only [← hix] at hsl hlo hixl hfirm
    have hix2 : (ix.length : Int) < 4611686018427387904 := by have := HS.out.nm; omega
    have HSTEP := Lib.hid hstep; clear hstep
    have HFI := Lib.hid hfirm; clear hfirm
    have HIX := Lib.hid hix; clear hix
    have HIXL := Lib.hid hixl; clear hixl
    have HSL := Lib.hid hsl; clear hsl hfo hfo2 e1
    have HJ := Lib.hid hJ; clear hJ
    go_upto_block 0 with fail
    clear hgo hlo
    go_cut [11] (fun v11 wx => v11 = .pointer (some ⟨w.heap.size + 1 + 1, 0, none⟩) ∧ BdJ V w may st gf go gm K gk gb (bb may st m).1 (bb may st m).2 wx)
    case first =>
      cases fb with
      | false =>
        have hst : start st m = (-1, -1) := by rw [HSTART.out]; rfl
        have hbb := HSOFT.out (by first | rfl | trivial)
        have hJ0 := HJ.out
        rw [hst] at hJ0
        have HJ0 := Lib.hid hJ0; clear hJ0
        have HBB := Lib.hid hbb; clear hbb hst
        go_wp2
        go_loopw [44] (fun v wr => ∃ k : Nat, k = 0 ∧ v = .int .i64 k ∧ BdJ V w may st gf go gm K gk gb (-1) (-1) wr) (fun _ _ => 0)
        case atStart => exact ⟨0, rfl, rfl, HJ0.out⟩
        case round =>
          obtain ⟨k, hk0, rfl, hJr⟩ := hrel
          by_cases hn : ix.length = 0
          · have h1 : ((k : Int) < ix.length) = False := eq_false (by omega)
            clear hn hk0
            go_wp2
            go_meet
            case rel => exact ⟨rfl, by rw [HBB.out]; exact hJr⟩
          · have h1 : (k : Int) < ix.length := by omega
            have hk1 : k < ix.length := by omega
            obtain ⟨g, o, rfl, -, -, hC, hg⟩ := sl_at (HSL.out.below hJr.bw.below) (by omega)
            obtain ⟨i, hi⟩ : ∃ i, i = ix[k] := ⟨_, rfl⟩
            have cx : wr.cell? ⟨g, o + k, none⟩ = some (.int .i64 (i : Int)) := by rw [hi]; exact hC k _ (nts_at hk1)
            have hgf : wr.cell? ⟨gf, 0, none⟩ = some (.map (some F)) := (hJr.bw.below.cell (p := ⟨gf, 0, none⟩) (World.block_lt_of_cell? _ _ HS.out.cfirm)).trans HS.out.cfirm
            have hlf := lookB (HS.out.firm.below hJr.bw.below) (m : Int)
            rw [← HFB.out] at hlf
            have HJR := Lib.hid hJr; clear hJr hC hi hn hk0
            go_wp2
            go_meet
            case rel => exact ⟨rfl, by rw [HBB.out]; exact HJR.out⟩
      | true =>
        have hst : start st m = b0 m := by rw [HSTART.out, if_pos rfl]
        have hbb := HFI.out (by first | rfl | trivial)
        have hJ0 := HJ.out
        rw [hst] at hJ0
        have hb0 : -1 ≤ (b0 m).2 ∧ (b0 m).2 ≤ 4000000 := by unfold b0; split <;> exact ⟨by decide, by decide⟩
        have HJ0 := Lib.hid hJ0; clear hJ0
        have HBB := Lib.hid hbb; clear hbb hst
        have HB0 := Lib.hid hb0; clear hb0
        go_wp2
        go_loopw [44] (fun v wr => ∃ (k : Nat) (b1 b2 : Int), k ≤ ix.length ∧ v = .int .i64 k ∧ foldK may st m k = (b1, b2) ∧ -1 ≤ b2 ∧ b2 ≤ 4000000 ∧ BdJ V w may st gf go gm K gk gb b1 b2 wr) (fun v _ => ix.length - (vInt v).toNat)
        case atStart => exact ⟨0, (b0 m).1, (b0 m).2, Nat.zero_le _, rfl, rfl, HB0.out.1, HB0.out.2, HJ0.out⟩
        case round =>
          obtain ⟨k, b1, b2, hk, rfl, hfk, hl1, hl2, hJr⟩ := hrel
          have HFK := Lib.hid hfk; clear hfk
          by_cases hkn : k < ix.length
          · have hkn' : (k : Int) < ix.length := by omega
            obtain ⟨i, p, r, hi, hil, hxw, hxp, hxr, hpm, hrm, hm6, hst⟩ := HSTEP.out k (by rw [← HIX.out]; exact hkn) b1 b2 HFK.out
            obtain ⟨g, o, rfl, -, -, hC, hg⟩ := sl_at (HSL.out.below hJr.bw.below) (by omega)
            have cx : wr.cell? ⟨g, o + k, none⟩ = some (.int .i64 (i : Int)) := by
              have := hC k _ (nts_at hkn)
              simp only [HIX.out, hi] at this
              exact this
            have hgf : wr.cell? ⟨gf, 0, none⟩ = some (.map (some F)) := (hJr.bw.below.cell (p := ⟨gf, 0, none⟩) (World.block_lt_of_cell? _ _ HS.out.cfirm)).trans HS.out.cfirm
            have hlf := lookB (HS.out.firm.below hJr.bw.below) (m : Int)
            rw [← HFB.out] at hlf
            have hil' : (i : Int) < may.length := by omega
            obtain ⟨g2, o2, rfl, -, -, -, hC2, hg2⟩ := HS.out.may'.at (by omega)
            have cA := Lst.cells hC2 hil
            have hrest := rest_any may[i]
            have hcost := cost_any may[i]
            have hcle := cost_le may[i]
            obtain ⟨C, hCc⟩ : ∃ C, C = may[i].cost := ⟨_, rfl⟩
            rw [← hCc] at hst hcost hcle
            rw [hxr] at hrest
            have hbp := bb_le (st := st) HS.out.ok (Nat.lt_trans hpm hm6)
            have hbr := bb_le (st := st) HS.out.ok (Nat.lt_trans hrm hm6)
            have hcp := fun (u : World) (hu : BdW V u may st gf go gm K gk gb) => IH.out p hpm u hu
            have hcr := fun (u : World) (hu : BdW V u may st gf go gm K gk gb) => IH.out r hrm u hu
            obtain ⟨x, hx⟩ : ∃ x, x = bb may st p := ⟨_, rfl⟩
            obtain ⟨y, hy⟩ : ∃ y, y = bb may st r := ⟨_, rfl⟩
            have hcp' : ∀ u : World, BdW V u may st gf go gm K gk gb → Calls Try.prog 64 #[.int .i64 (p : Int), .pointer (some ⟨gk, 0, none⟩), .pointer (some ⟨gf, 0, none⟩), .pointer (some ⟨go, 0, none⟩), .pointer (some ⟨gb, 0, none⟩), .pointer (some ⟨gm, 0, none⟩)] u fun e w' => e = .returned (.tuple #[bv x, .bool (decide (0 ≤ x.2))]) ∧ ExtK K may st u w' ∧ BdW V w' may st gf go gm K gk gb := fun u hu => (hcp u hu).mono fun e w' h => ⟨by rw [h.val, hx], h.ext, h.st'⟩
            have hcr' : ∀ u : World, BdW V u may st gf go gm K gk gb → Calls Try.prog 64 #[.int .i64 (r : Int), .pointer (some ⟨gk, 0, none⟩), .pointer (some ⟨gf, 0, none⟩), .pointer (some ⟨go, 0, none⟩), .pointer (some ⟨gb, 0, none⟩), .pointer (some ⟨gm, 0, none⟩)] u fun e w' => e = .returned (.tuple #[bv y, .bool (decide (0 ≤ y.2))]) ∧ ExtK K may st u w' ∧ BdW V w' may st gf go gm K gk gb := fun u hu => (hcr u hu).mono fun e w' h => ⟨by rw [h.val, hy], h.ext, h.st'⟩
            rw [← hx] at hst hbp
            rw [← hy] at hst hbr
            clear hx hy hcp hcr
            obtain ⟨x1, x2⟩ := x
            obtain ⟨y1, y2⟩ := y
            simp only [bv] at hcp' hcr'
            dsimp only at hst hbp hbr
            obtain ⟨ox, hox⟩ : ∃ ox, ox = decide (0 ≤ x2) := ⟨_, rfl⟩
            obtain ⟨oy, hoy⟩ : ∃ oy, oy = decide (0 ≤ y2) := ⟨_, rfl⟩
            rw [← hox] at hcp'
            rw [← hoy] at hcr'
            obtain ⟨z, hz⟩ : ∃ z, z = may[i] := ⟨_, rfl⟩
            rw [← hz] at hrest hcost cA hxp hxw
            clear hz hCc hxr hC2
            obtain ⟨zw, zp, ⟨na, da, sa, ya⟩, ⟨nb, db, sb, yb⟩, ⟨nc, dc, sc, yc⟩, ⟨nd, dd, sd, yd⟩⟩ := z
            dsimp only at hxp hxw
            subst hxp hxw
            have hrest' : ∀ U : World, Calls Try.prog 37 #[.agg #[.int .i64 (m : Int), .int .i64 (p : Int), .bool na, .slice sa da.length ya, .bool nb, .slice sb db.length yb, .bool nc, .slice sc dc.length yc, .bool nd, .slice sd dd.length yd]] U fun e w' => e = .returned (.int .i64 (r : Int)) ∧ Below U.heap.size U w' := fun U => hrest U
            have hcost' : ∀ U : World, Calls Try.prog 23 #[.agg #[.int .i64 (m : Int), .int .i64 (p : Int), .bool na, .slice sa da.length ya, .bool nb, .slice sb db.length yb, .bool nc, .slice sc dc.length yc, .bool nd, .slice sd dd.length yd]] U fun e w' => e = .returned (.int .i64 (C : Nat)) ∧ Below U.heap.size U w' := fun U => hcost U
            clear hrest hcost
            have hmem : ∀ U, Below V.heap.size V U → U.cell? ⟨g2, o2 + i * 10 + 1, none⟩ = some (.int .i64 (p : Int)) ∧ (loadVar 58 ⟨g2, o2 + i * 10, none⟩).run Try.prog U = .ok (.agg #[.int .i64 (m : Int), .int .i64 (p : Int), .bool na, .slice sa da.length ya, .bool nb, .slice sb db.length yb, .bool nc, .slice sc dc.length yc, .bool nd, .slice sd dd.length yd]) U := fun U hU =>
              have h := cA.below hU hg2
              ⟨h 1 _ rfl, run_load_agg (P := Try.prog) (ty := 58) h aggS infoS⟩
            have hcells : ∀ W5 : World, BdW V W5 may st gf go gm K gk gb → ∀ U, ExtK K may st W5 U → U.cell? ⟨gb, 0, none⟩ = some (.func (.func 64) #[] #[.pointer (some ⟨gk, 0, none⟩), .pointer (some ⟨gf, 0, none⟩), .pointer (some ⟨go, 0, none⟩), .pointer (some ⟨gb, 0, none⟩), .pointer (some ⟨gm, 0, none⟩)]) ∧ U.cell? ⟨gm, 0, none⟩ = some (.slice (some ⟨g2, o2, none⟩) may.length ca) ∧ U.cell? ⟨g2, o2 + i * 10 + 1, none⟩ = some (.int .i64 (p : Int)) ∧ (loadVar 58 ⟨g2, o2 + i * 10, none⟩).run Try.prog U = .ok (.agg #[.int .i64 (m : Int), .int .i64 (p : Int), .bool na, .slice sa da.length ya, .bool nb, .slice sb db.length yb, .bool nc, .slice sc dc.length yc, .bool nd, .slice sd dd.length yd]) U := fun W5 h5 U hU => by
              have hb := h5.ext HS.out hU
              have h2 := hmem U hb.below
              exact ⟨hb.cb, (hb.below.cell (p := ⟨gm, 0, none⟩) (World.block_lt_of_cell? _ _ HS.out.cmay)).trans HS.out.cmay, h2.1, h2.2⟩
            have HCE := Lib.hid hcells; clear hcells hmem cA
            have HRE := Lib.hid hrest'; clear hrest'
            have HCO := Lib.hid hcost'; clear hcost'
            have HCp := Lib.hid hcp'; clear hcp'
            have HCr := Lib.hid hcr'; clear hcr'
            have HST := Lib.hid hst; clear hst
            have HX := Lib.hid (And.intro hox (And.intro hbp.1 hbp.2.1)); clear hox hbp
            have HY := Lib.hid (And.intro hoy (And.intro hbr.1 hbr.2.1)); clear hoy hbr
            have HCLE := Lib.hid hcle; clear hcle
            have HL12 := Lib.hid (And.intro hl1 hl2); clear hl1 hl2
            have hk5 : K < wr.heap.size := hJr.bw.kn.lt
            have hgr5 : w.heap.size + 1 + 1 < wr.heap.size := hJr.b.lt
            have HKG := Lib.hid (And.intro hk5 hgr5); clear hk5 hgr5
            have HJR := Lib.hid hJr; clear hJr hC hi hpm hrm hm6 hg hg2
            have HIL := Lib.hid hil; clear hil
            have HKN := Lib.hid hkn; clear hkn
            go_wp2
            clear cx hgf hlf
            obtain ⟨W5, hW5⟩ : ∃ W5, W5 = wr := ⟨_, rfl⟩
            have hj5 := HJR.out
            have hc5 := HCE.out wr hj5.bw
            have hk5 := HKG.out.1
            rw [← hW5] at hj5 hc5 hk5 ⊢
            have HBW5 := Lib.hid hj5.bw
            have HCE5 := Lib.hid hc5; clear hc5
            have HK5 := Lib.hid hk5; clear hk5 hj5
            have HWR := Lib.hid hW5; clear hW5
            refine SqS.wp_region_sqs 13 [6, 10, 11] (ExtS W5.heap.size K may st [.int .i64 x1, .int .i64 x2]) (fun i a v W => match i with
              | 6 => v = .tuple #[.agg #[.int .i64 x1, .int .i64 x2], .bool ox]
              | 10 => ∃ R, v = .pointer (some ⟨R, 0, none⟩) ∧ W5.heap.size ≤ R ∧ (Blk W R [.int .i64 0, .int .i64 0] 69 ∨ Blk W R [.int .i64 x1, .int .i64 x2] 69)
              | 11 => ∃ R, a.tmps.getD 14 undef = .pointer (some ⟨R, 0, none⟩) ∧ W5.heap.size ≤ R ∧ Blk W R [.int .i64 x1, .int .i64 x2] 69
              | _ => True) (by kernel_rfl) (by kernel_rfl) ?cong1 (ExtS.refl _ _ _ _ _) (ExtS.trans _ _ _ _ _) ?stable1 ?main1
            case cong1 =>
              intro i o a a' v W ho h hp
              match i, ho, hp with
              | 0, _, hp => exact hp
              | 1, _, hp => exact hp
              | 2, _, hp => exact hp
              | 3, _, hp => exact hp
              | 4, _, hp => exact hp
              | 5, _, hp => exact hp
              | 6, _, hp => exact hp
              | 7, _, hp => exact hp
              | 8, _, hp => exact hp
              | 9, _, hp => exact hp
              | 10, _, hp => exact hp
              | 11, ho, hp => obtain rfl := Option.some.inj ho; obtain ⟨R, h1, h2⟩ := hp; exact ⟨R, (h 14 (by decide)).symm.trans h1, h2⟩
              | 12, _, hp => exact hp
              | _ + 13, _, _ => exact trivial
            case stable1 =>
              intro i a v W W' h hb
              match i, h with
              | 0, h => exact h
              | 1, h => exact h
              | 2, h => exact h
              | 3, h => exact h
              | 4, h => exact h
              | 5, h => exact h
              | 6, h => exact h
              | 7, h => exact h
              | 8, h => exact h
              | 9, h => exact h
              | 10, h => obtain ⟨R, h1, h2, h3⟩ := h; exact ⟨R, h1, h2, by rcases h3 with h3 | h3 <;> rcases hb.shape R h2 _ h3 with h4 | ⟨_, h4⟩ <;> first | exact .inr h4 | exact .inl h4⟩
              | 11, h => obtain ⟨R, h1, h2, h3⟩ := h; exact ⟨R, h1, h2, by rcases hb.shape R h2 _ h3 with h4 | ⟨_, h4⟩ <;> exact h4⟩
              | 12, h => exact h
              | _ + 13, _ => exact trivial
            simp only [List.take_succ_cons, List.take_zero, List.drop_succ_cons, List.drop_zero]
            have hxu : ∀ U, ExtS W5.heap.size K may st [.int .i64 x1, .int .i64 x2] W5.drew U → ExtK K may st W5 U := fun U hU => ((ExtS.of (ExtK.of ((Below.refl W5.heap.size W5).drew)) (Nat.le_refl _) HK5.out).trans _ _ _ _ _ _ _ _ hU).ext
            refine SqS.sqw_value (.func (.func 64) #[] #[.pointer (some ⟨gk, 0, none⟩), .pointer (some ⟨gf, 0, none⟩), .pointer (some ⟨go, 0, none⟩), .pointer (some ⟨gb, 0, none⟩), .pointer (some ⟨gm, 0, none⟩)]) rfl rfl (by intro U hU; have cx := (HCE5.out U (hxu U hU)).1; go_simp) ?_
            simp only [Act.put, List.setIfInBounds_toArray, List.set_cons_zero, List.set_cons_succ]
            refine SqS.sqw_value (.slice (some ⟨g2, o2, none⟩) may.length ca) rfl rfl (by intro U hU; have cx := (HCE5.out U (hxu U hU)).2.1; go_simp) ?_
            simp only [Act.put, List.setIfInBounds_toArray, List.set_cons_zero, List.set_cons_succ]
            iterate 2 (refine SqS.sqw_quiet rfl rfl (ExtS.refl _ _ _ _ _ _) ?_; go_big_quiet_step (fail); refine wpQuiet_nil ?_)
            iterate 1 (refine SqS.sqw_quiet rfl rfl (ExtS.refl _ _ _ _ _ _) ?_; go_big_quiet_step (fail); refine wpQuiet_nil ?_)
            refine SqS.sqw_value (.int .i64 (p : Int)) rfl rfl (by intro U hU; have cx := (HCE5.out U (hxu U hU)).2.2.1; go_simp) ?_
            simp only [Act.put, List.setIfInBounds_toArray, List.set_cons_zero, List.set_cons_succ]
            refine SqS.sqw_postY rfl rfl ?_ ?_
            · intro U hb hf
              refine yields_closure (f := 64) (lb := #[.pointer (some ⟨gk, 0, none⟩), .pointer (some ⟨gf, 0, none⟩), .pointer (some ⟨go, 0, none⟩), .pointer (some ⟨gb, 0, none⟩), .pointer (some ⟨gm, 0, none⟩)]) (args := #[.int .i64 ((p : Nat) : Int)]) rfl (by kernel_rfl) rfl rfl ((HCp.out U ((HBW5.out).ext HS.out (hxu U hb))).mono ?_)
              rintro e u1 ⟨rfl, h1, h2⟩
              exact ⟨_, rfl, rfl, ExtS.of h1 hb.size HK5.out⟩
            intro v Wj hv
            obtain rfl : v = .tuple #[.agg #[.int .i64 x1, .int .i64 x2], .bool ox] := hv
            simp only [Act.put, List.setIfInBounds_toArray, List.set_cons_zero, List.set_cons_succ]
            iterate 3 (refine SqS.sqw_quiet rfl rfl (ExtS.refl _ _ _ _ _ _) ?_; go_big_quiet_step (fail); refine wpQuiet_nil ?_)
            refine SqS.sqw_postY rfl rfl ?_ ?_
            · intro U hb hf
              refine yields_value (v := .pointer (some ⟨U.heap.size, 0, none⟩)) (w' := U.alloc (.cells #[.int .i64 0, .int .i64 0] 69)) ?_ ⟨⟨_, rfl, (hxu U hb).1.size, .inl (Blk.new _ _ _)⟩, ExtS.of (ExtK.of (alloc_below _ _)) hb.size HK5.out⟩
              go_simp
            intro v Wj hv
            obtain ⟨R, rfl, hRb, _⟩ := hv
            simp only [Act.put, List.setIfInBounds_toArray, List.set_cons_zero, List.set_cons_succ]
            refine SqS.sqw_postY rfl rfl ?_ ?_
            · intro U hb hf
              have h1 := hf 10 14 (by kernel_rfl) rfl rfl (fun o h => by obtain rfl := Option.some.inj h; rfl)
              obtain ⟨R', hR0, hR2, hR3⟩ := h1
              have hR1 : Value.pointer (some ⟨R, 0, none⟩) = .pointer (some ⟨R', 0, none⟩) := hR0
              have hR4 : (Blk U R' [.int .i64 0, .int .i64 0] 69 ∨ Blk U R' [.int .i64 x1, .int .i64 x2] 69) := hR3
              clear hR0 hR3
              have e1 : R' = R := ptr_inj hR1
              rw [e1] at hR4
              obtain ⟨c, hcB, hc⟩ : ∃ c, Blk U R c 69 ∧ (c = [.int .i64 0, .int .i64 0] ∨ c = [.int .i64 x1, .int .i64 x2]) := by
                rcases hR4 with h | h
                · exact ⟨_, h, .inl rfl⟩
                · exact ⟨_, h, .inr rfl⟩
              have hc2 : c.length = 2 := by rcases hc with h | h <;> (rw [h]; rfl)
              refine yields_store_two (v1 := .int .i64 x1) (v2 := .int .i64 x2) hcB hc2 rfl rfl rfl infoB rfl rfl ?_
              intro U' k1 k2
              exact ⟨⟨R, rfl, hRb, k1⟩, ExtS.fill hRb HK5.out hcB hc k2 k1⟩
            intro v Wj hv
            simp only [Act.put, List.setIfInBounds_toArray, List.set_cons_zero, List.set_cons_succ]
            iterate 1 (refine SqS.sqw_quiet rfl rfl (ExtS.refl _ _ _ _ _ _) ?_; go_big_quiet_step (fail); refine wpQuiet_nil ?_)
            refine SqS.sqw_nil ?_
            intro w7 hb hf hf2
            have h1 := hf2 11 (by decide) (by kernel_rfl) (fun o h => by obtain rfl := Option.some.inj h; rfl)
            obtain ⟨_, R', hR0, hR2, hR3⟩ := h1
            have hR1 : Value.pointer (some ⟨R, 0, none⟩) = .pointer (some ⟨R', 0, none⟩) := hR0
            have hR5 : Blk w7 R' [.int .i64 x1, .int .i64 x2] 69 := hR3
            have hR6 : W5.heap.size ≤ R' := hR2
            clear hR0 hR3 hR2
            have e1 : R' = R := ptr_inj hR1
            rw [e1] at hR5 hR6
            obtain ⟨hR3, hR2⟩ := And.intro hR5 hR6
            clear e1 hR1 hR5 hR6
            have hx7 := hxu w7 hb
            clear hf hf2 hb hxu hRb
            have hj7 : BdJ V w may st gf go gm K gk gb b1 b2 w7 := (by rw [← HWR.out] at HJR; exact HJR.out.step HS.out hx7)
            have hRg : w.heap.size + 1 + 1 < R := by have := HKG.out.2; rw [← HWR.out] at this; omega
            obtain ⟨w8, hw8⟩ : ∃ w8, w8 = w7 := ⟨_, rfl⟩
            rw [← hw8] at hj7 hR3 ⊢
            clear hw8
            have hj8 := hj7
            have hX8 : Blk w8 R [.int .i64 x1, .int .i64 x2] 69 := hR3
            have HJ8 := Lib.hid hj8; clear hj8 hj7
            have HX8 := Lib.hid hX8; clear hX8 hR3 hx7 hR2
            have HRG := Lib.hid hRg; clear hRg HBW5 HCE5 HK5 HWR
            obtain ⟨gX, hgX⟩ : ∃ gX, gX = R := ⟨_, rfl⟩
            rw [← hgX] at HRG HX8 ⊢
            clear hgX
            go_wp2
            obtain ⟨W5, hW5⟩ : ∃ W5, W5 = w8 := ⟨_, rfl⟩
            have hj5 := HJ8.out
            have hc5 := HCE.out w8 hj5.bw
            have hk5 := hj5.bw.kn.lt
            rw [← hW5] at hj5 hc5 hk5 ⊢
            have HBW5 := Lib.hid hj5.bw
            have HCE5 := Lib.hid hc5; clear hc5
            have HK5 := Lib.hid hk5; clear hk5 hj5
            have HWR := Lib.hid hW5; clear hW5
            refine SqS.wp_region_sqs 13 [5, 6, 10, 11] (ExtS W5.heap.size K may st [.int .i64 y1, .int .i64 y2]) (fun i a v W => match i with
              | 5 => v = .int .i64 (r : Int)
              | 6 => v = .tuple #[.agg #[.int .i64 y1, .int .i64 y2], .bool oy]
              | 10 => ∃ R, v = .pointer (some ⟨R, 0, none⟩) ∧ W5.heap.size ≤ R ∧ (Blk W R [.int .i64 0, .int .i64 0] 69 ∨ Blk W R [.int .i64 y1, .int .i64 y2] 69)
              | 11 => ∃ R, a.tmps.getD 16 undef = .pointer (some ⟨R, 0, none⟩) ∧ W5.heap.size ≤ R ∧ Blk W R [.int .i64 y1, .int .i64 y2] 69
              | _ => True) (by kernel_rfl) (by kernel_rfl) ?cong2 (ExtS.refl _ _ _ _ _) (ExtS.trans _ _ _ _ _) ?stable2 ?main2
            case cong2 =>
              intro i o a a' v W ho h hp
              match i, ho, hp with
              | 0, _, hp => exact hp
              | 1, _, hp => exact hp
              | 2, _, hp => exact hp
              | 3, _, hp => exact hp
              | 4, _, hp => exact hp
              | 5, _, hp => exact hp
              | 6, _, hp => exact hp
              | 7, _, hp => exact hp
              | 8, _, hp => exact hp
              | 9, _, hp => exact hp
              | 10, _, hp => exact hp
              | 11, ho, hp => obtain rfl := Option.some.inj ho; obtain ⟨R, h1, h2⟩ := hp; exact ⟨R, (h 16 (by decide)).symm.trans h1, h2⟩
              | 12, _, hp => exact hp
              | _ + 13, _, _ => exact trivial
            case stable2 =>
              intro i a v W W' h hb
              match i, h with
              | 0, h => exact h
              | 1, h => exact h
              | 2, h => exact h
              | 3, h => exact h
              | 4, h => exact h
              | 5, h => exact h
              | 6, h => exact h
              | 7, h => exact h
              | 8, h => exact h
              | 9, h => exact h
              | 10, h => obtain ⟨R, h1, h2, h3⟩ := h; exact ⟨R, h1, h2, by rcases h3 with h3 | h3 <;> rcases hb.shape R h2 _ h3 with h4 | ⟨_, h4⟩ <;> first | exact .inr h4 | exact .inl h4⟩
              | 11, h => obtain ⟨R, h1, h2, h3⟩ := h; exact ⟨R, h1, h2, by rcases hb.shape R h2 _ h3 with h4 | ⟨_, h4⟩ <;> exact h4⟩
              | 12, h => exact h
              | _ + 13, _ => exact trivial
            simp only [List.take_succ_cons, List.take_zero, List.drop_succ_cons, List.drop_zero]
            have hxu : ∀ U, ExtS W5.heap.size K may st [.int .i64 y1, .int .i64 y2] W5.drew U → ExtK K may st W5 U := fun U hU => ((ExtS.of (ExtK.of ((Below.refl W5.heap.size W5).drew)) (Nat.le_refl _) HK5.out).trans _ _ _ _ _ _ _ _ hU).ext
            refine SqS.sqw_value (.func (.func 64) #[] #[.pointer (some ⟨gk, 0, none⟩), .pointer (some ⟨gf, 0, none⟩), .pointer (some ⟨go, 0, none⟩), .pointer (some ⟨gb, 0, none⟩), .pointer (some ⟨gm, 0, none⟩)]) rfl rfl (by intro U hU; have cx := (HCE5.out U (hxu U hU)).1; go_simp) ?_
            simp only [Act.put, List.setIfInBounds_toArray, List.set_cons_zero, List.set_cons_succ]
            refine SqS.sqw_value (.slice (some ⟨g2, o2, none⟩) may.length ca) rfl rfl (by intro U hU; have cx := (HCE5.out U (hxu U hU)).2.1; go_simp) ?_
            simp only [Act.put, List.setIfInBounds_toArray, List.set_cons_zero, List.set_cons_succ]
            iterate 2 (refine SqS.sqw_quiet rfl rfl (ExtS.refl _ _ _ _ _ _) ?_; go_big_quiet_step (fail); refine wpQuiet_nil ?_)
            refine SqS.sqw_value (.agg #[.int .i64 (m : Int), .int .i64 (p : Int), .bool na, .slice sa da.length ya, .bool nb, .slice sb db.length yb, .bool nc, .slice sc dc.length yc, .bool nd, .slice sd dd.length yd]) rfl rfl (fun U hU => load_agg_exec rfl rfl (HCE5.out U (hxu U hU)).2.2.2) ?_
            simp only [Act.put, List.setIfInBounds_toArray, List.set_cons_zero, List.set_cons_succ]
            refine SqS.sqw_postY rfl rfl ?_ ?_
            · intro U hb hf
              refine yields_call rfl (by kernel_rfl) rfl rfl ((HRE.out U).mono ?_)
              rintro e u1 ⟨rfl, b9⟩
              exact ⟨_, rfl, rfl, ExtS.of (ExtK.of b9) hb.size HK5.out⟩
            intro v Wj hv
            obtain rfl : v = .int .i64 (r : Int) := hv
            simp only [Act.put, List.setIfInBounds_toArray, List.set_cons_zero, List.set_cons_succ]
            refine SqS.sqw_postY rfl rfl ?_ ?_
            · intro U hb hf
              refine yields_closure (f := 64) (lb := #[.pointer (some ⟨gk, 0, none⟩), .pointer (some ⟨gf, 0, none⟩), .pointer (some ⟨go, 0, none⟩), .pointer (some ⟨gb, 0, none⟩), .pointer (some ⟨gm, 0, none⟩)]) (args := #[.int .i64 ((r : Nat) : Int)]) rfl (by kernel_rfl) rfl rfl ((HCr.out U ((HBW5.out).ext HS.out (hxu U hb))).mono ?_)
              rintro e u1 ⟨rfl, h1, h2⟩
              exact ⟨_, rfl, rfl, ExtS.of h1 hb.size HK5.out⟩
            intro v Wj hv
            obtain rfl : v = .tuple #[.agg #[.int .i64 y1, .int .i64 y2], .bool oy] := hv
            simp only [Act.put, List.setIfInBounds_toArray, List.set_cons_zero, List.set_cons_succ]
            iterate 3 (refine SqS.sqw_quiet rfl rfl (ExtS.refl _ _ _ _ _ _) ?_; go_big_quiet_step (fail); refine wpQuiet_nil ?_)
            refine SqS.sqw_postY rfl rfl ?_ ?_
            · intro U hb hf
              refine yields_value (v := .pointer (some ⟨U.heap.size, 0, none⟩)) (w' := U.alloc (.cells #[.int .i64 0, .int .i64 0] 69)) ?_ ⟨⟨_, rfl, (hxu U hb).1.size, .inl (Blk.new _ _ _)⟩, ExtS.of (ExtK.of (alloc_below _ _)) hb.size HK5.out⟩
              go_simp
            intro v Wj hv
            obtain ⟨R, rfl, hRb, _⟩ := hv
            simp only [Act.put, List.setIfInBounds_toArray, List.set_cons_zero, List.set_cons_succ]
            refine SqS.sqw_postY rfl rfl ?_ ?_
            · intro U hb hf
              have h1 := hf 10 16 (by kernel_rfl) rfl rfl (fun o h => by obtain rfl := Option.some.inj h; rfl)
              obtain ⟨R', hR0, hR2, hR3⟩ := h1
              have hR1 : Value.pointer (some ⟨R, 0, none⟩) = .pointer (some ⟨R', 0, none⟩) := hR0
              have hR4 : (Blk U R' [.int .i64 0, .int .i64 0] 69 ∨ Blk U R' [.int .i64 y1, .int .i64 y2] 69) := hR3
              clear hR0 hR3
              have e1 : R' = R := ptr_inj hR1
              rw [e1] at hR4
              obtain ⟨c, hcB, hc⟩ : ∃ c, Blk U R c 69 ∧ (c = [.int .i64 0, .int .i64 0] ∨ c = [.int .i64 y1, .int .i64 y2]) := by
                rcases hR4 with h | h
                · exact ⟨_, h, .inl rfl⟩
                · exact ⟨_, h, .inr rfl⟩
              have hc2 : c.length = 2 := by rcases hc with h | h <;> (rw [h]; rfl)
              refine yields_store_two (v1 := .int .i64 y1) (v2 := .int .i64 y2) hcB hc2 rfl rfl rfl infoB rfl rfl ?_
              intro U' k1 k2
              exact ⟨⟨R, rfl, hRb, k1⟩, ExtS.fill hRb HK5.out hcB hc k2 k1⟩
            intro v Wj hv
            simp only [Act.put, List.setIfInBounds_toArray, List.set_cons_zero, List.set_cons_succ]
            iterate 1 (refine SqS.sqw_quiet rfl rfl (ExtS.refl _ _ _ _ _ _) ?_; go_big_quiet_step (fail); refine wpQuiet_nil ?_)
            refine SqS.sqw_nil ?_
            intro w7 hb hf hf2
            have h1 := hf2 11 (by decide) (by kernel_rfl) (fun o h => by obtain rfl := Option.some.inj h; rfl)
            obtain ⟨_, R', hR0, hR2, hR3⟩ := h1
            have hR1 : Value.pointer (some ⟨R, 0, none⟩) = .pointer (some ⟨R', 0, none⟩) := hR0
            have hR5 : Blk w7 R' [.int .i64 y1, .int .i64 y2] 69 := hR3
            have hR6 : W5.heap.size ≤ R' := hR2
            clear hR0 hR3 hR2
            have e1 : R' = R := ptr_inj hR1
            rw [e1] at hR5 hR6
            obtain ⟨hR3, hR2⟩ := And.intro hR5 hR6
            clear e1 hR1 hR5 hR6
            have hx7 := hxu w7 hb
            clear hf hf2 hb hxu hRb
            have hj7 : BdJ V w may st gf go gm K gk gb b1 b2 w7 := (by rw [← HWR.out] at HJ8; exact HJ8.out.step HS.out hx7)
            have hX7 : Blk w7 gX [.int .i64 x1, .int .i64 x2] 69 := by
              have h1 := HX8.out
              rw [← HWR.out] at h1
              exact h1.chg hx7.1 (by have := HRG.out; have := HJ8.out.w0.kn.lt; simp; omega)
            have hgXR : gX < R := by have := HX8.out.lt; rw [← HWR.out] at this; omega
            have hRg : w.heap.size + 1 + 1 < R := by have := HRG.out; omega
            obtain ⟨w9, hw9⟩ : ∃ w9, w9 = w7 := ⟨_, rfl⟩
            rw [← hw9] at hj7 hX7 hR3 ⊢
            clear hw9
            have hj9 := hj7
            have hX9 := hX7
            have hY9 : Blk w9 R [.int .i64 y1, .int .i64 y2] 69 := hR3
            have hc9 := HCE.out w9 hj9.bw
            have HJ9 := Lib.hid hj9; clear hj9 hj7
            have HX9 := Lib.hid hX9; clear hX9 hX7
            have HY9 := Lib.hid hY9; clear hY9 hR3 hR2 hgXR hRg HBW5 HCE5 HK5 HWR
            have HCE9 := Lib.hid hc9; clear hc9 HX8 HJ8
            go_wp2
            have eX : Below w9.heap.size w9 w9.drew := (Below.refl _ _).drew
            haveI : Nonempty (SqC.Come fun U : World => Below w9.heap.size w9 U) := ⟨⟨_, eX⟩⟩
            refine SqC.wp_region_sqc 12 [9] (fun U : World => Below w9.heap.size w9 U) (by kernel_rfl) (by kernel_rfl) (by kernel_rfl) eX ?_
            obtain ⟨wd, hwd⟩ : ∃ wd : World, wd = w9.drew := ⟨_, rfl⟩
            rw [← hwd] at eX ⊢
            clear hwd
            refine SqC.quiet rfl rfl ?_; go_big_quiet_step (fail); refine wpQuiet_nil ?_
            refine SqC.value (.int .i64 x2) rfl rfl (by intro U hU; have cx : U.cell? ⟨gX, 1, none⟩ = some (.int .i64 x2) := (HX9.out.below hU HX9.out.lt).cell rfl; go_simp) ?_
            simp only [Act.put, List.setIfInBounds_toArray, List.set_cons_zero, List.set_cons_succ]
            refine SqC.quiet rfl rfl ?_; go_big_quiet_step (fail); refine wpQuiet_nil ?_
            refine SqC.value (.int .i64 y2) rfl rfl (by intro U hU; have cx : U.cell? ⟨R, 1, none⟩ = some (.int .i64 y2) := (HY9.out.below hU HY9.out.lt).cell rfl; go_simp) ?_
            simp only [Act.put, List.setIfInBounds_toArray, List.set_cons_zero, List.set_cons_succ]
            have hxy1 : x2 + y2 < 4611686018427387904 := by have := HX.out; have := HY.out; omega
            have hxy2 : -2 ≤ x2 + y2 := by have := HX.out; have := HY.out; omega
            refine SqC.quiet rfl rfl ?_; go_big_quiet_step (fail); refine wpQuiet_nil ?_
            refine SqC.value (.slice (some ⟨g2, o2, none⟩) may.length ca) rfl rfl (by intro U hU; have cx := (HCE9.out U (ExtK.of hU)).2.1; go_simp) ?_
            simp only [Act.put, List.setIfInBounds_toArray, List.set_cons_zero, List.set_cons_succ]
            refine SqC.quiet rfl rfl ?_; go_big_quiet_step (fail); refine wpQuiet_nil ?_
            refine SqC.quiet rfl rfl ?_; go_big_quiet_step (fail); refine wpQuiet_nil ?_
            refine SqC.value (.agg #[.int .i64 (m : Int), .int .i64 (p : Int), .bool na, .slice sa da.length ya, .bool nb, .slice sb db.length yb, .bool nc, .slice sc dc.length yc, .bool nd, .slice sd dd.length yd]) rfl rfl (fun U hU => load_agg_exec rfl rfl (HCE9.out U (ExtK.of hU)).2.2.2) ?_
            simp only [Act.put, List.setIfInBounds_toArray, List.set_cons_zero, List.set_cons_succ]
            refine SqC.effect rfl rfl ?_
            refine yields_call rfl (by kernel_rfl) rfl rfl ((HCO.out wd).mono ?_)
            rintro e w10 ⟨rfl, b10⟩
            have e10 : Below w9.heap.size w9 w10 := eX.trans (b10.mono eX.size)
            refine ⟨_, rfl, fun _ => e10, ?_⟩
            simp only [Act.put, List.setIfInBounds_toArray, List.set_cons_zero, List.set_cons_succ]
            have hc16 : (C : Int) ≤ 16 := by have := HCLE.out; omega
            have hnn : x2 + y2 + (C : Int) < 4611686018427387904 := by have := HX.out; have := HY.out; omega
            have hnn2 : -2 ≤ x2 + y2 + (C : Int) := by omega
            refine SqC.quiet rfl rfl ?_; go_big_quiet_step (fail); refine wpQuiet_nil ?_
            refine SqC.quiet rfl rfl ?_; go_big_quiet_step (fail); refine wpQuiet_nil ?_
            refine SqC.nil ?_
            clear hxy1 hxy2 hc16 eX b10 this hnn2 hnn
            have hj10 : BdJ V w may st gf go gm K gk gb b1 b2 w10 := HJ9.out.step HS.out (ExtK.of e10)
            clear e10
            obtain ⟨N, hN⟩ : ∃ N, N = x2 + y2 + (C : Int) := ⟨_, rfl⟩
            have hst := HST.out
            have hNb : N ≤ 4000000 := by have := HX.out; have := HY.out; have := HCLE.out; omega
            rw [← hN] at hst ⊢
            have HST2 := Lib.hid hst; clear hst HST
            have HNB := Lib.hid hNb; clear hNb
            have HN := Lib.hid hN; clear hN
            have c10 : w10.cell? ⟨w.heap.size + 1 + 1, 1, none⟩ = some (.int .i64 b2) := hj10.b.cell rfl
            have HJ10 := Lib.hid hj10; clear hj10 HJ9 HX9 HY9 HCE9
            cases ox with
            | false =>
              have hnext : foldK may st m (k + 1) = (b1, b2) := by
                rw [HST2.out, if_neg]
                rintro ⟨q1, q2, q3⟩
                have := HX.out.1.symm; exact absurd q1 (of_decide_eq_false this)
              have HNEXT := Lib.hid hnext; clear hnext
              go_wp2
              go_roundw
              case rel => exact ⟨k + 1, b1, b2, by have := HKN.out; omega, by go_num, HNEXT.out, HL12.out.1, HL12.out.2, HJ10.out⟩
              case measure => have := HKN.out; simp [vInt]; omega
            | true =>
              cases oy with
              | false =>
                have hnext : foldK may st m (k + 1) = (b1, b2) := by
                  rw [HST2.out, if_neg]
                  rintro ⟨q1, q2, q3⟩
                  have := HY.out.1.symm; exact absurd q2 (of_decide_eq_false this)
                have HNEXT := Lib.hid hnext; clear hnext
                go_wp2
                go_roundw
                case rel => exact ⟨k + 1, b1, b2, by have := HKN.out; omega, by go_num, HNEXT.out, HL12.out.1, HL12.out.2, HJ10.out⟩
                case measure => have := HKN.out; simp [vInt]; omega
              | true =>
                by_cases hb2 : b2 < 0
                · have HB2 := Lib.hid hb2
                  have hb3 : (b2 < 0) = True := eq_true hb2
                  have hnext : foldK may st m (k + 1) = ((i : Int), N) := by
                    rw [HST2.out, if_pos]
                    have := HX.out.1
                    have := HY.out.1
                    exact ⟨of_decide_eq_true (by rw [← HX.out.1]), of_decide_eq_true (by rw [← HY.out.1]), .inl hb2⟩
                  have HNEXT := Lib.hid hnext; clear hnext
                  clear hb2
                  go_wp2_with (refine wpList_store_blk (ty := 69) (n := 2) (vs := [.int .i64 (i : Int), .int .i64 N]) HJ10.out.b rfl rfl rfl rfl rfl infoB rfl (by simp) (by intro u hu; simp at hu; rcases hu with hu | hu <;> (subst hu; rfl)) ?_)
                  intro w11 k1 k2
                  have hj11 : BdJ V w may st gf go gm K gk gb (i : Int) N w11 := HJ10.out.set k2 k1
                  have HJ11 := Lib.hid hj11; clear hj11 k1 k2
                  clear c10
                  go_wp2
                  go_roundw
                  case rel => exact ⟨k + 1, (i : Int), N, by have := HKN.out; omega, by go_num, HNEXT.out, by have := of_decide_eq_true HX.out.1.symm; have := of_decide_eq_true HY.out.1.symm; have := HN.out; omega, HNB.out, HJ11.out⟩
                  case measure => have := HKN.out; simp [vInt]; omega
                · have hb3 : (b2 < 0) = False := eq_false hb2
                  by_cases hlt : N < b2
                  · have hlt2 : (N < b2) = True := eq_true hlt
                    have hnext : foldK may st m (k + 1) = ((i : Int), N) := by
                      rw [HST2.out, if_pos]
                      have := HX.out.1
                      have := HY.out.1
                      exact ⟨of_decide_eq_true (by rw [← HX.out.1]), of_decide_eq_true (by rw [← HY.out.1]), .inr hlt⟩
                    have HNEXT := Lib.hid hnext; clear hnext
                    clear hlt hb2
                    go_wp2_with (refine wpList_store_blk (ty := 69) (n := 2) (vs := [.int .i64 (i : Int), .int .i64 N]) HJ10.out.b rfl rfl rfl rfl rfl infoB rfl (by simp) (by intro u hu; simp at hu; rcases hu with hu | hu <;> (subst hu; rfl)) ?_)
                    intro w11 k1 k2
                    have hj11 : BdJ V w may st gf go gm K gk gb (i : Int) N w11 := HJ10.out.set k2 k1
                    have HJ11 := Lib.hid hj11; clear hj11 k1 k2
                    clear c10
                    go_wp2
                    go_roundw
                    case rel => exact ⟨k + 1, (i : Int), N, by have := HKN.out; omega, by go_num, HNEXT.out, by have := of_decide_eq_true HX.out.1.symm; have := of_decide_eq_true HY.out.1.symm; have := HN.out; omega, HNB.out, HJ11.out⟩
                    case measure => have := HKN.out; simp [vInt]; omega
                  · have hlt2 : (N < b2) = False := eq_false hlt
                    have hnext : foldK may st m (k + 1) = (b1, b2) := by
                      rw [HST2.out, if_neg]
                      rintro ⟨q1, q2, q3⟩
                      rcases q3 with q3 | q3
                      · exact hb2 q3
                      · exact hlt q3
                    have HNEXT := Lib.hid hnext; clear hnext
                    clear hlt hb2
                    go_wp2
                    go_roundw
                    case rel => exact ⟨k + 1, b1, b2, by have := HKN.out; omega, by go_num, HNEXT.out, HL12.out.1, HL12.out.2, HJ10.out⟩
                    case measure => have := HKN.out; simp [vInt]; omega
          · have h1 : ((k : Int) < ix.length) = False := eq_false (by omega)
            have hkk : k = ix.length := by omega
            have hbe : bb may st m = (b1, b2) := by rw [HBB.out, ← hkk]; exact HFK.out
            have HBE := Lib.hid hbe; clear hbe hkk
            have HJR := Lib.hid hJr; clear hJr
            go_wp2
            go_meet
            case rel => exact ⟨rfl, by rw [HBE.out]; exact HJR.out⟩
    case rest =>
      obtain ⟨rfl, hJf⟩ := hcut
      clear HJ HSL HSTEP HFI HIX HIXL HSOFT HFIRM HSTART HJ2 HSZ HFB HC HW0 HW1 HW2 IH HMF HMV hix2
      obtain ⟨w6, rfl⟩ : ∃ w6 : World, w6 = wc := ⟨_, rfl⟩
      have hq0 := HQ0.out
      have hkv : ∀ (W : World) (f : Int → Option Value), MapV W K f → (∀ k v, f k = some v → ∃ n : Nat, n < 65536 ∧ k = n ∧ v = bv (bb may st n)) → f m = some (bv (bb may st m)) → KnM W K may st := fun W f h1 h2 _ => ⟨f, h1, h2⟩
      obtain ⟨fk, ⟨mm, him, hmg⟩, hfp⟩ := hJf.bw.kn
      have hkn3 : ∀ W : World, IMap W K (mset mm (m : Int) (bv (bb may st m))) → KnM W K may st := fun W hW => ⟨_, MapV.set hmg hW, fun k v hv => by
        by_cases hkm : k = m
        · rw [if_pos hkm] at hv
          exact ⟨m, HM.out, hkm, (Option.some.inj hv).symm⟩
        · rw [if_neg hkm] at hv
          exact hfp k v hv⟩
      clear hkv
      obtain ⟨b, hb⟩ : ∃ b, b = bb may st m := ⟨_, rfl⟩
      rw [← hb] at hq0 hkn3 hJf
      clear HQ0
      obtain ⟨b1, b2⟩ := b
      simp only [bv] at hq0 hkn3
      dsimp only at hJf
      have hck : w6.cell? ⟨gk, 0, none⟩ = some (.map (some K)) := hJf.bw.ck
      have hldb : (loadVar 69 ⟨w.heap.size + 1 + 1, 0, none⟩).run Try.prog w6 = .ok (.agg #[.int .i64 b1, .int .i64 b2]) w6 := run_load_agg (P := Try.prog) (ty := 69) (vs := [.int .i64 b1, .int .i64 b2]) hJf.b.cells0 aggB infoB
      have HQ0 := Lib.hid hq0; clear hq0 hb
      have HK3 := Lib.hid hkn3; clear hkn3
      have HJF := Lib.hid hJf; clear hJf
      have HIM := Lib.hid him; clear him hmg hfp
      go_wp2_with (first | refine wpList_load_agg (ty := 69) [.int .i64 b1, .int .i64 b2] HJF.out.b.cells0 rfl rfl rfl aggB infoB ?_ | refine wpList_mapUpdate_imap (k := (m : Int)) (v := .agg #[.int .i64 b1, .int .i64 b2]) HIM.out rfl rfl rfl rfl rfl rfl hTknown hKset ?_)
      intro w3 hm3 hc3 hz3
      have hx3 : ExtK K may st w6 w3 := ⟨hc3, fun _ => HK3.out w3 hm3⟩
      have hJ3 := HJF.out.step HS.out hx3
      clear hck hldb hm3 hc3 hz3 hx3 HIM HK3 HJF
      have hcell : ∀ U, Chg [w.heap.size] w3 U → U.cell? ⟨w.heap.size + 1 + 1, 1, none⟩ = some (.int .i64 b2) ∧ (loadVar 69 ⟨w.heap.size + 1 + 1, 0, none⟩).run Try.prog U = .ok (.agg #[.int .i64 b1, .int .i64 b2]) U := fun U hU =>
        have h := hJ3.b.chg hU (by simp; omega)
        ⟨h.cell rfl, run_load_agg (P := Try.prog) (ty := 69) (vs := [.int .i64 b1, .int .i64 b2]) h.cells0 aggB infoB⟩
      have HCE := Lib.hid hcell; clear hcell
      have hjd : BdJ V w may st gf go gm K gk gb b1 b2 w3.drew := hJ3.step HS.out (ExtK.of ((Below.refl w3.heap.size w3).drew))
      clear hJ3
      go_wp2
      have eX : Chg [w.heap.size] w3 w3.drew := (Chg.refl _ _).drew
      haveI : Nonempty (SqC.Come fun U : World => Chg [w.heap.size] w3 U) := ⟨⟨_, eX⟩⟩
      refine SqC.wp_region_sqc 6 [4] (fun U : World => Chg [w.heap.size] w3 U) (by kernel_rfl) (by kernel_rfl) (by kernel_rfl) eX ?_
      obtain ⟨wd, hwd⟩ : ∃ wd : World, wd = w3.drew := ⟨_, rfl⟩
      rw [← hwd] at eX hjd ⊢
      clear hwd
      refine SqC.value (.agg #[.int .i64 b1, .int .i64 b2]) rfl rfl (fun U hU => load_agg_exec rfl rfl (HCE.out U hU).2) ?_
      simp only [Act.put, List.setIfInBounds_toArray, List.set_cons_zero, List.set_cons_succ]
      refine SqC.quiet rfl rfl ?_; go_big_quiet_step (fail); refine wpQuiet_nil ?_
      refine SqC.value (.int .i64 b2) rfl rfl (by intro U hU; have cx := (HCE.out U hU).1; go_simp) ?_
      simp only [Act.put, List.setIfInBounds_toArray, List.set_cons_zero, List.set_cons_succ]
      refine SqC.value (.bool (decide (0 ≤ b2))) rfl rfl (by intro U hU; go_simp) ?_
      simp only [Act.put, List.setIfInBounds_toArray, List.set_cons_zero, List.set_cons_succ]
      refine SqC.effectW rfl rfl ?_
      refine wpList_store_blk (ty := 69) (n := 2) (vs := [.int .i64 b1, .int .i64 b2]) hjd.r rfl rfl rfl rfl rfl infoB rfl (by simp) (by intro u hu; simp at hu; rcases hu with hu | hu <;> (subst hu; rfl)) ?_
      intro wz z1 z2
      have z1' : Blk wz w.heap.size [.int .i64 b1, .int .i64 b2] 69 := z1
      have ez : Chg [w.heap.size] w3 wz := eX.trans (Chg.of_oth z2 (by simp))
      have hfin := hjd.fin z2
      have Z1 := Lib.hid z1'; clear z1' z1 z2 hjd
      have HFIN := Lib.hid hfin; clear hfin
      have EZ := Lib.hid ez; clear ez eX
      go_wp2
      refine SqC.here rfl (fun _ => EZ.out) ?_
      refine SqC.quiet rfl rfl ?_; go_big_quiet_step (fail); refine wpQuiet_nil ?_
      refine SqC.nil ?_
      go_wp2
      refine bodyPost_ret (results_ct rfl rfl (run_load_agg (P := Try.prog) (ty := 69) Z1.out.cells0 aggB infoB)) rfl ?_
      exact HQ0.out wz HFIN.out.1 HFIN.out.2
end Go.Proofs.Ytnkinjilnccmfaa
