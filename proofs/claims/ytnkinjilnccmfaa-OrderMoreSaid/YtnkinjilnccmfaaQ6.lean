/- order: sets as numbers of any kind: how many of the first sixteen elements they have; what is left of a split. -/
import Derived.Test.YtnkinjilnccmfaaO12
import Derived.Test.YtnkinjilnccmfaaP16
import Derived.Test.YtnkinjilnccmfaaOP1
import Derived.Test.YtnkinjilnccmfaaSqa
namespace Go.Order
open Go.RowKit Go.Own Go.Theory Go.Ib Go.Lib
def rg (z : Int) : Prop := -9223372036854775808 ≤ z ∧ z ≤ 9223372036854775807
/-- the first sixteen elements -/
def lo16 (s : Int) : Nat := (s % 65536).toNat
def siz (s : Int) : Nat := Go.Theory.pop (lo16 s)
def rsti (w p : Int) : Int := bits .andNot .i64 w p
theorem lo16_lt (s : Int) : lo16 s < 65536 := by unfold lo16; omega
theorem lo16_nat (s : Nat) (h : s < 65536) : lo16 (s : Int) = s := by unfold lo16; omega
theorem siz_le (s : Int) : siz s ≤ 16 := pop_le16 _
theorem siz_nat (s : Nat) (h : s < 65536) : siz (s : Int) = Go.Theory.pop s := by unfold siz; rw [lo16_nat s h]
theorem and_low (s : Int) (k : Nat) (hk : k ≤ 32) (n : Nat) (hn : 2 ^ k = n) : bits .and .i64 s ((n - 1 : Nat) : Int) = s % (n : Int) := by
  have hn0 : 0 < n := by rw [← hn]; exact Nat.pow_pos (by decide)
  have hn1 : n ≤ 4294967296 := by rw [← hn, show (4294967296 : Nat) = 2 ^ 32 from rfl]; exact Nat.pow_le_pow_right (by decide) hk
  show IntKind.i64.wrap ((BitVec.ofInt 64 s &&& BitVec.ofInt 64 ((n - 1 : Nat) : Int)).toNat : Int) = _
  rw [BitVec.toNat_and, ofInt_u64 (n - 1) (by omega), ← hn, Nat.and_two_pow_sub_one_eq_mod, BitVec.toNat_ofInt]
  have h1 : (s % ((2 ^ 64 : Nat) : Int)).toNat % 2 ^ k = (s % ((2 ^ k : Nat) : Int)).toNat := by
    have hd : ((2 ^ k : Nat) : Int) ∣ ((2 ^ 64 : Nat) : Int) := Int.natCast_dvd_natCast.2 (Nat.pow_dvd_pow 2 (by omega))
    have h2 : s % ((2 ^ 64 : Nat) : Int) % ((2 ^ k : Nat) : Int) = s % ((2 ^ k : Nat) : Int) := Int.emod_emod_of_dvd _ hd
    have h3 : 0 ≤ s % ((2 ^ 64 : Nat) : Int) := Int.emod_nonneg _ (by decide)
    rw [← h2]
    obtain ⟨m, hm⟩ : ∃ m : Nat, s % ((2 ^ 64 : Nat) : Int) = m := ⟨_, (Int.toNat_of_nonneg h3).symm⟩
    rw [hm, Int.toNat_natCast, ← Int.natCast_emod, Int.toNat_natCast]
  rw [h1, hn, wrap_i64_small]
  · exact Int.toNat_of_nonneg (Int.emod_nonneg _ (by omega))
  · have : s % (n : Int) < n := Int.emod_lt_of_pos _ (by omega)
    omega
theorem and_lo (s : Int) : bits .and .i64 s 65535 = (lo16 s : Int) := by
  have := and_low s 16 (by decide) 65536 rfl
  rw [show ((65536 - 1 : Nat) : Int) = 65535 from rfl] at this
  rw [this]
  unfold lo16
  omega
theorem and_one (s : Int) : bits .and .i64 s 1 = s % 2 := by
  have := and_low s 1 (by decide) 2 rfl
  exact this
theorem shr_one (s : Int) (k : Nat) (hk : k < 16) : bits .and .i64 (s / 2 ^ k) 1 = if (lo16 s).testBit k then 1 else 0 := by
  rw [and_one]
  have hq : s = (lo16 s : Int) + 2 ^ k * (2 * (2 ^ (15 - k) * (s / 65536))) := by
    have e : (2 : Int) ^ k * (2 * (2 ^ (15 - k) * (s / 65536))) = 65536 * (s / 65536) := by
      rw [← Int.mul_assoc, ← Int.mul_assoc]
      congr 1
      rw [show (2 : Int) ^ k * 2 * 2 ^ (15 - k) = 2 ^ (k + 1 + (15 - k)) by rw [Int.pow_add, Int.pow_succ]]
      rw [show k + 1 + (15 - k) = 16 by omega]; rfl
    rw [e]
    unfold lo16
    omega
  have h2 : (2 : Int) ^ k ≠ 0 := by
    have : (0 : Int) < 2 ^ k := Int.pow_pos (by decide)
    omega
  have h3 : s / 2 ^ k = (lo16 s : Int) / 2 ^ k + 2 * (2 ^ (15 - k) * (s / 65536)) := by
    conv => lhs; rw [hq]
    rw [Int.add_mul_ediv_left _ _ h2]
  rw [h3, Int.add_mul_emod_self_left, Nat.testBit_eq_decide_div_mod_eq]
  have e0 : (lo16 s : Int) / 2 ^ k = ((lo16 s / 2 ^ k : Nat) : Int) := by simp
  rw [e0]
  by_cases h : lo16 s / 2 ^ k % 2 = 1
  · simp only [h, decide_true, if_true]; omega
  · have : lo16 s / 2 ^ k % 2 = 0 := by omega
    simp only [this]
    rw [if_neg (by decide)]
    omega
theorem rsti_lo (w p : Int) : ∀ k, k < 16 → (lo16 (rsti w p)).testBit k = ((lo16 w).testBit k && !(lo16 p).testBit k) := by
  intro k hk
  have key : ∀ z : Int, (lo16 z).testBit k = (BitVec.ofInt 64 z).getLsbD k := fun z => by
    have h := and_lo z
    have h1 : lo16 z = (BitVec.ofInt 64 z).toNat % 65536 := by
      rw [BitVec.toNat_ofInt]
      unfold lo16
      rw [show ((2 ^ 64 : Nat) : Int) = 18446744073709551616 from rfl]
      omega
    rw [h1, show (65536 : Nat) = 2 ^ 16 from rfl, Nat.testBit_mod_two_pow]
    simp [hk, BitVec.getLsbD]
  rw [key, key, key]
  unfold rsti
  show (B (bits .andNot .i64 w p)).getLsbD k = ((B w).getLsbD k && !(B p).getLsbD k)
  rw [B_andNot]
  simp [show k < 64 by omega]
theorem rsti_nat {w p : Nat} (hw : w < 65536) (hp : p < 65536) (h : Sb p w) : rsti (w : Int) (p : Int) = ((w - p : Nat) : Int) := by
  unfold rsti
  rw [b_andNot w p (by omega) (by omega)]
  congr 1
  apply Nat.eq_of_testBit_eq
  intro k
  rw [diff_bit w p k (by omega), h.bit]
end Go.Order
namespace Go.Proofs.Ytnkinjilnccmfaa
open Go.RowKit Go.Own Go.BigFrame Go.Big Go.Order Go.Theory Go.Ib
set_option maxRecDepth 100000 in
theorem ones64_any (x : Nat) (hx : x < 65536) (w : World) : Calls Try.prog 85 #[.int .u64 x] w fun e w' => e = .returned (.int .i64 (Go.Theory.pop x)) ∧ w' = w := by
  have h := ones_pop16 x hx
  rw [← h]
  clear h
  go_enter Try.func85, Try.ntmps85
  go_wp2
  go_ret
  exact ⟨rfl, rfl⟩
set_option maxRecDepth 100000 in
theorem ones_any (x : Nat) (hx : x < 65536) (w : World) : Calls Try.prog 71 #[.int .u64 x] w fun e w' => e = .returned (.int .i64 (Go.Theory.pop x)) ∧ w' = w := by
  go_enter Try.func71, Try.ntmps71
  go_wp2_with (fail)
  refine (ones64_any x hx w).mono ?_
  rintro e w2 ⟨rfl, rfl⟩
  go_wp2
  go_ret
  exact ⟨rfl, rfl⟩
theorem size_any (s : Int) (w : World) : Calls Try.prog 44 #[.int .i64 s] w fun e w' => e = .returned (.int .i64 (siz s : Nat)) ∧ w' = w := by
  have h1 := and_lo s
  have h2 := lo16_lt s
  have ho := ones_any (lo16 s) h2 w
  unfold siz
  obtain ⟨x, hx⟩ : ∃ x, x = lo16 s := ⟨_, rfl⟩
  rw [← hx] at h1 h2 ho ⊢
  have h3 : IntKind.u64.wrap (x : Int) = x := wrap_u64_small x (by omega)
  have HO := Lib.hid ho; clear ho hx
  go_enter Try.func44, Try.ntmps44
  go_wp2_with (fail)
  refine HO.out.mono ?_
  rintro e w2 ⟨rfl, h⟩
  have h2 := h.symm; clear h; subst h2
  go_wp2
  go_ret
  exact ⟨rfl, rfl⟩
theorem rhas16_any (s : Int) (k : Nat) (hk : k < 16) (w : World) : Calls Try.prog 75 #[.int .i64 s, .int .i64 k] w fun e w' => e = .returned (.bool ((lo16 s).testBit k)) ∧ w' = w := by
  have h := shr_one s k hk
  cases hb : (lo16 s).testBit k with
  | true =>
    rw [hb, if_pos rfl] at h
    go_enter Try.func75, Try.ntmps75
    go_wp2
    go_ret
    exact ⟨rfl, rfl⟩
  | false =>
    rw [hb, if_neg Bool.false_ne_true] at h
    go_enter Try.func75, Try.ntmps75
    go_wp2
    go_ret
    exact ⟨rfl, rfl⟩
theorem popTo_le (x : Nat) : ∀ k, popTo x k ≤ k
  | 0 => Nat.le_refl _
  | k + 1 => by have := popTo_le x k; simp only [popTo]; split <;> omega
set_option maxRecDepth 100000 in
theorem count_any (s : Int) (w : World) :
    Calls Try.prog 57 #[.int .i64 s, .int .i64 16] w fun e w' => e = .returned (.int .i64 (siz s : Nat)) ∧ w' = w := by
  go_enter Try.func57, Try.ntmps57
  go_wp2
  go_loopw [5, 6] (fun v5 c wr => ∃ k : Nat, k ≤ 16 ∧ c = .int .i64 k ∧ v5 = .int .i64 (popTo (lo16 s) k : Nat) ∧ wr = w) (fun _ c _ => 16 - (vInt c).toNat)
  case atStart => exact ⟨0, by omega, rfl, rfl, rfl⟩
  case round =>
    obtain ⟨k, hk, rfl, rfl, rfl⟩ := hrel
    have hle := popTo_le (lo16 s) k
    by_cases hkn : k < 16
    · have hkn' : (k : Int) < 16 := by omega
      have hin := rhas16_any s k hkn
      have hnx : popTo (lo16 s) (k + 1) = popTo (lo16 s) k + if (lo16 s).testBit k then 1 else 0 := rfl
      have HNX := Lib.hid hnx; clear hnx
      obtain ⟨c, hc⟩ : ∃ c, c = popTo (lo16 s) k := ⟨_, rfl⟩
      rw [← hc] at HNX hle ⊢
      clear hc
      cases hp : (lo16 s).testBit k with
      | true =>
        rw [hp] at hin HNX
        have HI := Lib.hid hin; clear hin hp
        go_wp2_with (fail)
        refine (HI.out _).mono ?_
        rintro e w2 ⟨rfl, rfl⟩
        go_wp2
        go_roundw
        case rel => exact ⟨k + 1, by omega, by go_num, by rw [HNX.out]; go_num, trivial⟩
        case measure => simp [vInt]; omega
      | false =>
        rw [hp] at hin HNX
        have HI := Lib.hid hin; clear hin hp
        go_wp2_with (fail)
        refine (HI.out _).mono ?_
        rintro e w2 ⟨rfl, rfl⟩
        go_wp2
        go_roundw
        case rel => exact ⟨k + 1, by omega, by go_num, by rw [HNX.out]; rfl, trivial⟩
        case measure => simp [vInt]; omega
    · obtain rfl : k = 16 := by omega
      have hs : siz s = popTo (lo16 s) 16 := rfl
      rw [← hs] at hle ⊢
      go_wp2
      go_ret
      exact ⟨rfl, rfl⟩
theorem rsize_any (s : Int) (w : World) : Calls Try.prog 27 #[.int .i64 s] w fun e w' => e = .returned (.int .i64 (siz s : Nat)) ∧ w' = w := by
  go_enter Try.func27, Try.ntmps27
  go_wp2_with (fail)
  refine (count_any s w).mono ?_
  rintro e w2 ⟨rfl, rfl⟩
  go_wp2
  go_ret
  exact ⟨rfl, rfl⟩
end Go.Proofs.Ytnkinjilnccmfaa
/- order: parts and costs of splits. -/
namespace Go.Order
open Go.RowKit Go.Own Go.Theory
def Spl.v (x : Spl) : Value := .agg x.cells.toArray
def Spl.rest (x : Spl) : Int := rsti x.w x.p
def Spl.cost (x : Spl) : Nat := min (siz x.p) (siz x.rest)
end Go.Order
namespace Go.Proofs.Ytnkinjilnccmfaa
open Go.RowKit Go.Own Go.BigFrame Go.Big Go.Order
theorem aggS : (match Try.prog.underlying 58 with | some (.struct _) | some (.array _ _) => true | _ => false) = true := by kernel_rfl
theorem infoS : (Try.prog.info? 58).map (·.size) = some 10 := by kernel_rfl
attribute [local irreducible] SqC.SqW
theorem rest_any (x : Spl) (w : World) : Calls Try.prog 37 #[x.v] w fun e w' => e = .returned (.int .i64 x.rest) ∧ Below w.heap.size w w' := by
  obtain ⟨xw, xp, ⟨an, ad, az, ac⟩, ⟨bn, bd, bz, bc⟩, ⟨cn, cd, cz, cc⟩, ⟨dn, dd, dz, dc⟩⟩ := x
  show Calls Try.prog 37 #[.agg #[.int .i64 xw, .int .i64 xp, .bool an, .slice az ad.length ac, .bool bn, .slice bz bd.length bc, .bool cn, .slice cz cd.length cc, .bool dn, .slice dz dd.length dc]] w fun e w' => e = .returned (.int .i64 (bits .andNot .i64 xw xp)) ∧ Below w.heap.size w w'
  go_enter Try.func37, Try.ntmps37
  go_wp2
  go_ret
  exact ⟨rfl, alloc_below _ _⟩
theorem rrest_any (x : Spl) (w : World) : Calls Try.prog 28 #[x.v] w fun e w' => e = .returned (.int .i64 x.rest) ∧ Below w.heap.size w w' := by
  obtain ⟨xw, xp, ⟨an, ad, az, ac⟩, ⟨bn, bd, bz, bc⟩, ⟨cn, cd, cz, cc⟩, ⟨dn, dd, dz, dc⟩⟩ := x
  show Calls Try.prog 28 #[.agg #[.int .i64 xw, .int .i64 xp, .bool an, .slice az ad.length ac, .bool bn, .slice bz bd.length bc, .bool cn, .slice cz cd.length cc, .bool dn, .slice dz dd.length dc]] w fun e w' => e = .returned (.int .i64 (bits .andNot .i64 xw xp)) ∧ Below w.heap.size w w'
  go_enter Try.func28, Try.ntmps28
  go_wp2
  go_ret
  exact ⟨rfl, alloc_below _ _⟩
set_option maxRecDepth 100000 in
theorem cost_any (x : Spl) (w : World) : Calls Try.prog 23 #[x.v] w fun e w' => e = .returned (.int .i64 (x.cost : Nat)) ∧ Below w.heap.size w w' := by
  have hr := rest_any x
  have hsp := siz_le x.p
  have hsr := siz_le x.rest
  have hs1 := size_any x.p
  have hs2 := size_any x.rest
  have hcost : x.cost = min (siz x.p) (siz x.rest) := rfl
  obtain ⟨R, hR⟩ : ∃ R, R = x.rest := ⟨_, rfl⟩
  rw [← hR] at hr hsr hs2 hcost
  obtain ⟨S, hS⟩ : ∃ S, S = siz x.p := ⟨_, rfl⟩
  obtain ⟨T, hT⟩ : ∃ T, T = siz R := ⟨_, rfl⟩
  rw [← hS] at hs1 hcost hsp
  rw [← hT] at hs2 hcost hsr
  rw [hcost]
  clear hcost hR hS hT
  obtain ⟨xw, xp, ⟨an, ad, az, ac⟩, ⟨bn, bd, bz, bc⟩, ⟨cn, cd, cz, cc⟩, ⟨dn, dd, dz, dc⟩⟩ := x
  obtain ⟨va, hva⟩ : ∃ va : Value, va = .slice az ad.length ac := ⟨_, rfl⟩
  obtain ⟨vb, hvb⟩ : ∃ vb : Value, vb = .slice bz bd.length bc := ⟨_, rfl⟩
  obtain ⟨vc, hvc⟩ : ∃ vc : Value, vc = .slice cz cd.length cc := ⟨_, rfl⟩
  obtain ⟨vd, hvd⟩ : ∃ vd : Value, vd = .slice dz dd.length dc := ⟨_, rfl⟩
  have hr' : ∀ U : World, Calls Try.prog 37 #[.agg #[.int .i64 xw, .int .i64 xp, .bool an, va, .bool bn, vb, .bool cn, vc, .bool dn, vd]] U fun e w' => e = .returned (.int .i64 R) ∧ Below U.heap.size U w' := fun U => by rw [hva, hvb, hvc, hvd]; exact hr U
  show Calls Try.prog 23 #[.agg #[.int .i64 xw, .int .i64 xp, .bool an, .slice az ad.length ac, .bool bn, .slice bz bd.length bc, .bool cn, .slice cz cd.length cc, .bool dn, .slice dz dd.length dc]] w fun e w' => e = .returned (.int .i64 ((min S T : Nat) : Int)) ∧ Below w.heap.size w w'
  rw [← hva, ← hvb, ← hvc, ← hvd]
  obtain ⟨W1, hW1⟩ : ∃ W1, W1 = w.alloc (.cells #[.int .i64 xw, .int .i64 xp, .bool an, va, .bool bn, vb, .bool cn, vc, .bool dn, vd] 58) := ⟨_, rfl⟩
  have hB : Blk W1 w.heap.size [.int .i64 xw, .int .i64 xp, .bool an, va, .bool bn, vb, .bool cn, vc, .bool dn, vd] 58 := by rw [hW1]; exact Blk.new w #[.int .i64 xw, .int .i64 xp, .bool an, va, .bool bn, vb, .bool cn, vc, .bool dn, vd] 58
  have b1 : Below w.heap.size w W1 := by rw [hW1]; exact alloc_below _ _
  clear hva hvb hvc hvd hr
  have HR := Lib.hid hr'; clear hr'
  have H1 := Lib.hid hs1; clear hs1
  have H2 := Lib.hid hs2; clear hs2
  have HSP := Lib.hid hsp; clear hsp
  have HSR := Lib.hid hsr; clear hsr
  have HW1 := Lib.hid hW1; clear hW1
  have HB1 := Lib.hid b1; clear b1
  go_enter Try.func23, Try.ntmps23
  go_step
  go_wp2
  rw [← HW1.out]
  have hx : ∀ U, Below W1.heap.size W1 U → U.cell? ⟨w.heap.size, 1, none⟩ = some (.int .i64 xp) := fun U hU => (hB.below hU hB.lt).cell rfl
  have hl : ∀ U, Below W1.heap.size W1 U → (loadVar 58 ⟨w.heap.size, 0, none⟩).run Try.prog U = .ok (.agg #[.int .i64 xw, .int .i64 xp, .bool an, va, .bool bn, vb, .bool cn, vc, .bool dn, vd]) U := fun U hU =>
    run_load_agg (P := Try.prog) (ty := 58) (hB.below hU hB.lt).cells0 aggS infoS
  have HX := Lib.hid hx; clear hx
  have HLD := Lib.hid hl; clear hl hB
  have eX : Below W1.heap.size W1 W1.drew := (Below.refl _ _).drew
  haveI : Nonempty (SqC.Come fun U : World => Below W1.heap.size W1 U) := ⟨⟨_, eX⟩⟩
  refine SqC.wp_region_sqc 8 [2, 4, 5] (fun U : World => Below W1.heap.size W1 U) (by kernel_rfl) (by kernel_rfl) (by kernel_rfl) eX ?_
  obtain ⟨wd, hwd⟩ : ∃ wd : World, wd = W1.drew := ⟨_, rfl⟩
  rw [← hwd] at eX ⊢
  clear hwd
  refine SqC.quiet rfl rfl ?_; go_big_quiet_step (fail); refine wpQuiet_nil ?_
  refine SqC.value (.int .i64 xp) rfl rfl (by intro U hU; have cx := HX.out U hU; go_simp) ?_
  simp only [Act.put, List.setIfInBounds_toArray, List.set_cons_zero, List.set_cons_succ]
  refine SqC.effect rfl rfl ?_
  refine yields_call rfl (by kernel_rfl) rfl rfl ((H1.out wd).mono ?_)
  rintro e w5 ⟨rfl, h5⟩
  have h6 := h5.symm
  clear h5
  subst h6
  refine ⟨_, rfl, fun _ => eX, ?_⟩
  simp only [Act.put, List.setIfInBounds_toArray, List.set_cons_zero, List.set_cons_succ]
  refine SqC.value (.agg #[.int .i64 xw, .int .i64 xp, .bool an, va, .bool bn, vb, .bool cn, vc, .bool dn, vd]) rfl rfl (fun U hU => load_agg_exec rfl rfl (HLD.out U hU)) ?_
  simp only [Act.put, List.setIfInBounds_toArray, List.set_cons_zero, List.set_cons_succ]
  refine SqC.effect rfl rfl ?_
  refine yields_call rfl (by kernel_rfl) rfl rfl ((HR.out wd).mono ?_)
  rintro e w5 ⟨rfl, b5⟩
  have eX5 : Below W1.heap.size W1 w5 := eX.trans (b5.mono eX.size)
  refine ⟨_, rfl, fun _ => eX5, ?_⟩
  simp only [Act.put, List.setIfInBounds_toArray, List.set_cons_zero, List.set_cons_succ]
  refine SqC.effect rfl rfl ?_
  refine yields_call rfl (by kernel_rfl) rfl rfl ((H2.out w5).mono ?_)
  rintro e w6 ⟨rfl, h5⟩
  have h6 := h5.symm
  clear h5
  subst h6
  refine ⟨_, rfl, fun _ => eX5, ?_⟩
  simp only [Act.put, List.setIfInBounds_toArray, List.set_cons_zero, List.set_cons_succ]
  rcases Nat.lt_or_ge T S with h | h
  · have hm : min S T = T := Nat.min_eq_right (Nat.le_of_lt h)
    have HMN := Lib.hid hm; clear hm
    have h1 : (T : Int) < S := by omega
    iterate 2 (refine SqC.quiet rfl rfl ?_; go_big_quiet_step (fail); refine wpQuiet_nil ?_)
    refine SqC.nil ?_
    go_wp2
    go_ret
    exact ⟨by rw [HMN.out]; rfl, HB1.out.trans (eX5.mono HB1.out.size)⟩
  · have hm : min S T = S := Nat.min_eq_left h
    have HMN := Lib.hid hm; clear hm
    have h1 : ((T : Int) < S) = False := eq_false (by omega)
    iterate 2 (refine SqC.quiet rfl rfl ?_; go_big_quiet_step (fail); refine wpQuiet_nil ?_)
    refine SqC.nil ?_
    go_wp2
    go_ret
    exact ⟨by rw [HMN.out]; rfl, HB1.out.trans (eX5.mono HB1.out.size)⟩
set_option maxRecDepth 100000 in
theorem rcost_any (x : Spl) (w : World) : Calls Try.prog 24 #[x.v] w fun e w' => e = .returned (.int .i64 (x.cost : Nat)) ∧ Below w.heap.size w w' := by
  have hr := rrest_any x
  have hsp := siz_le x.p
  have hsr := siz_le x.rest
  have hs1 := rsize_any x.p
  have hs2 := rsize_any x.rest
  have hcost : x.cost = min (siz x.p) (siz x.rest) := rfl
  obtain ⟨R, hR⟩ : ∃ R, R = x.rest := ⟨_, rfl⟩
  rw [← hR] at hr hsr hs2 hcost
  obtain ⟨S, hS⟩ : ∃ S, S = siz x.p := ⟨_, rfl⟩
  obtain ⟨T, hT⟩ : ∃ T, T = siz R := ⟨_, rfl⟩
  rw [← hS] at hs1 hcost hsp
  rw [← hT] at hs2 hcost hsr
  rw [hcost]
  clear hcost hR hS hT
  obtain ⟨xw, xp, ⟨an, ad, az, ac⟩, ⟨bn, bd, bz, bc⟩, ⟨cn, cd, cz, cc⟩, ⟨dn, dd, dz, dc⟩⟩ := x
  obtain ⟨va, hva⟩ : ∃ va : Value, va = .slice az ad.length ac := ⟨_, rfl⟩
  obtain ⟨vb, hvb⟩ : ∃ vb : Value, vb = .slice bz bd.length bc := ⟨_, rfl⟩
  obtain ⟨vc, hvc⟩ : ∃ vc : Value, vc = .slice cz cd.length cc := ⟨_, rfl⟩
  obtain ⟨vd, hvd⟩ : ∃ vd : Value, vd = .slice dz dd.length dc := ⟨_, rfl⟩
  have hr' : ∀ U : World, Calls Try.prog 28 #[.agg #[.int .i64 xw, .int .i64 xp, .bool an, va, .bool bn, vb, .bool cn, vc, .bool dn, vd]] U fun e w' => e = .returned (.int .i64 R) ∧ Below U.heap.size U w' := fun U => by rw [hva, hvb, hvc, hvd]; exact hr U
  show Calls Try.prog 24 #[.agg #[.int .i64 xw, .int .i64 xp, .bool an, .slice az ad.length ac, .bool bn, .slice bz bd.length bc, .bool cn, .slice cz cd.length cc, .bool dn, .slice dz dd.length dc]] w fun e w' => e = .returned (.int .i64 ((min S T : Nat) : Int)) ∧ Below w.heap.size w w'
  rw [← hva, ← hvb, ← hvc, ← hvd]
  obtain ⟨W1, hW1⟩ : ∃ W1, W1 = w.alloc (.cells #[.int .i64 xw, .int .i64 xp, .bool an, va, .bool bn, vb, .bool cn, vc, .bool dn, vd] 58) := ⟨_, rfl⟩
  have hB : Blk W1 w.heap.size [.int .i64 xw, .int .i64 xp, .bool an, va, .bool bn, vb, .bool cn, vc, .bool dn, vd] 58 := by rw [hW1]; exact Blk.new w #[.int .i64 xw, .int .i64 xp, .bool an, va, .bool bn, vb, .bool cn, vc, .bool dn, vd] 58
  have b1 : Below w.heap.size w W1 := by rw [hW1]; exact alloc_below _ _
  clear hva hvb hvc hvd hr
  have HR := Lib.hid hr'; clear hr'
  have H1 := Lib.hid hs1; clear hs1
  have H2 := Lib.hid hs2; clear hs2
  have HSP := Lib.hid hsp; clear hsp
  have HSR := Lib.hid hsr; clear hsr
  have HW1 := Lib.hid hW1; clear hW1
  have HB1 := Lib.hid b1; clear b1
  go_enter Try.func24, Try.ntmps24
  go_step
  go_wp2
  rw [← HW1.out]
  have hx : ∀ U, Below W1.heap.size W1 U → U.cell? ⟨w.heap.size, 1, none⟩ = some (.int .i64 xp) := fun U hU => (hB.below hU hB.lt).cell rfl
  have hl : ∀ U, Below W1.heap.size W1 U → (loadVar 58 ⟨w.heap.size, 0, none⟩).run Try.prog U = .ok (.agg #[.int .i64 xw, .int .i64 xp, .bool an, va, .bool bn, vb, .bool cn, vc, .bool dn, vd]) U := fun U hU =>
    run_load_agg (P := Try.prog) (ty := 58) (hB.below hU hB.lt).cells0 aggS infoS
  have HX := Lib.hid hx; clear hx
  have HLD := Lib.hid hl; clear hl hB
  have eX : Below W1.heap.size W1 W1.drew := (Below.refl _ _).drew
  haveI : Nonempty (SqC.Come fun U : World => Below W1.heap.size W1 U) := ⟨⟨_, eX⟩⟩
  refine SqC.wp_region_sqc 8 [2, 4, 5] (fun U : World => Below W1.heap.size W1 U) (by kernel_rfl) (by kernel_rfl) (by kernel_rfl) eX ?_
  obtain ⟨wd, hwd⟩ : ∃ wd : World, wd = W1.drew := ⟨_, rfl⟩
  rw [← hwd] at eX ⊢
  clear hwd
  refine SqC.quiet rfl rfl ?_; go_big_quiet_step (fail); refine wpQuiet_nil ?_
  refine SqC.value (.int .i64 xp) rfl rfl (by intro U hU; have cx := HX.out U hU; go_simp) ?_
  simp only [Act.put, List.setIfInBounds_toArray, List.set_cons_zero, List.set_cons_succ]
  refine SqC.effect rfl rfl ?_
  refine yields_call rfl (by kernel_rfl) rfl rfl ((H1.out wd).mono ?_)
  rintro e w5 ⟨rfl, h5⟩
  have h6 := h5.symm
  clear h5
  subst h6
  refine ⟨_, rfl, fun _ => eX, ?_⟩
  simp only [Act.put, List.setIfInBounds_toArray, List.set_cons_zero, List.set_cons_succ]
  refine SqC.value (.agg #[.int .i64 xw, .int .i64 xp, .bool an, va, .bool bn, vb, .bool cn, vc, .bool dn, vd]) rfl rfl (fun U hU => load_agg_exec rfl rfl (HLD.out U hU)) ?_
  simp only [Act.put, List.setIfInBounds_toArray, List.set_cons_zero, List.set_cons_succ]
  refine SqC.effect rfl rfl ?_
  refine yields_call rfl (by kernel_rfl) rfl rfl ((HR.out wd).mono ?_)
  rintro e w5 ⟨rfl, b5⟩
  have eX5 : Below W1.heap.size W1 w5 := eX.trans (b5.mono eX.size)
  refine ⟨_, rfl, fun _ => eX5, ?_⟩
  simp only [Act.put, List.setIfInBounds_toArray, List.set_cons_zero, List.set_cons_succ]
  refine SqC.effect rfl rfl ?_
  refine yields_call rfl (by kernel_rfl) rfl rfl ((H2.out w5).mono ?_)
  rintro e w6 ⟨rfl, h5⟩
  have h6 := h5.symm
  clear h5
  subst h6
  refine ⟨_, rfl, fun _ => eX5, ?_⟩
  simp only [Act.put, List.setIfInBounds_toArray, List.set_cons_zero, List.set_cons_succ]
  rcases Nat.lt_or_ge T S with h | h
  · have hm : min S T = T := Nat.min_eq_right (Nat.le_of_lt h)
    have HMN := Lib.hid hm; clear hm
    have h1 : (T : Int) < S := by omega
    iterate 2 (refine SqC.quiet rfl rfl ?_; go_big_quiet_step (fail); refine wpQuiet_nil ?_)
    refine SqC.nil ?_
    go_wp2
    go_ret
    exact ⟨by rw [HMN.out]; rfl, HB1.out.trans (eX5.mono HB1.out.size)⟩
  · have hm : min S T = S := Nat.min_eq_left h
    have HMN := Lib.hid hm; clear hm
    have h1 : ((T : Int) < S) = False := eq_false (by omega)
    iterate 2 (refine SqC.quiet rfl rfl ?_; go_big_quiet_step (fail); refine wpQuiet_nil ?_)
    refine SqC.nil ?_
    go_wp2
    go_ret
    exact ⟨by rw [HMN.out]; rfl, HB1.out.trans (eX5.mono HB1.out.size)⟩
end Go.Proofs.Ytnkinjilnccmfaa
/- order: equal numbers, splits and lists, in both packages. -/
namespace Go.Order
open Go.RowKit Go.Own Go.Proofs.Ytnkinjilnccmfaa
def Num.eqv (x y : Num) : Bool := x.n == y.n && x.d == y.d
def Spl.eqv (x y : Spl) : Bool := x.w == y.w && x.p == y.p && (x.a.eqv y.a && x.b.eqv y.b) && (x.c.eqv y.c && x.d.eqv y.d)
theorem take_next {α : Type} {a b : List α} {i : Nat} (ha : i < a.length) (hb : i < b.length) (h : a.take i = b.take i) (e : a[i] = b[i]) : a.take (i + 1) = b.take (i + 1) := by
  rw [List.take_succ_eq_append_getElem ha, List.take_succ_eq_append_getElem hb, h, e]
theorem ne_of_at {α : Type} [BEq α] [LawfulBEq α] {a b : List α} {i : Nat} (ha : i < a.length) (hb : i < b.length) (e : a[i] ≠ b[i]) : (a == b) = false := by
  rw [beq_eq_false_iff_ne]
  rintro rfl
  exact e rfl
theorem intsI_len (l : List Int) : (intsI l).length = l.length := by unfold intsI; simp
theorem intsI_at {l : List Int} {i : Nat} (h : i < l.length) : (intsI l)[i]? = some (.int .i64 l[i]) := by unfold intsI; simp [h]
end Go.Order
namespace Go.Proofs.Ytnkinjilnccmfaa
open Go.RowKit Go.Own Go.BigFrame Go.Big Go.Order
set_option maxRecDepth 100000 in
theorem equal_any (a b : List Int) (s t : Option Addr) (ca cb : Nat) (w : World) (hl : Sz w (.slice s a.length ca) a.length (intsI a)) (hm : Sz w (.slice t b.length cb) b.length (intsI b)) (hn : a.length < 4611686018427387904) :
    Calls Try.prog 73 #[.slice s a.length ca, .slice t b.length cb] w fun e w' => e = .returned (.bool (a == b)) ∧ Below w.heap.size w w' := by
  have hn2 : (a.length : Int) < 4611686018427387904 := by omega
  have HL := Lib.hid hl; clear hl
  have HM := Lib.hid hm; clear hm
  by_cases hab : a.length = b.length
  · have h1 : ((a.length : Int) != b.length) = false := by rw [bne_eq_false_iff_eq]; omega
    have h2 : ((a.length : Int) = b.length) = True := eq_true (by omega)
    have h3 : (a.length = b.length) = True := eq_true hab
    have HAB := Lib.hid hab; clear hab
    go_enter Try.func73, Try.ntmps73
    go_wp2
    clear h1 h2 h3
    go_loopw [13] (fun v wr => ∃ i : Nat, i ≤ a.length ∧ v = .int .i64 i ∧ a.take i = b.take i ∧ Below w.heap.size w wr) (fun v _ => a.length - (vInt v).toNat)
    case atStart => exact ⟨0, Nat.zero_le _, rfl, rfl, Below.refl _ _⟩
    case round =>
      obtain ⟨i, hi, rfl, ht, hbr⟩ := hrel
      have HT := Lib.hid ht; clear ht
      by_cases h1 : i < a.length
      · have h1' : (i : Int) < a.length := by omega
        have hib : i < b.length := by have := HAB.out; omega
        have hib' : (i : Int) < b.length := by omega
        obtain ⟨g, o, rfl, _, _, hC, hg⟩ := sl_at (HL.out (by omega)) (by omega)
        obtain ⟨g2, o2, rfl, _, _, hC2, hg2⟩ := sl_at (HM.out (by omega)) (by omega)
        obtain ⟨x, hx⟩ : ∃ x, x = a[i] := ⟨_, rfl⟩
        obtain ⟨y, hy⟩ : ∃ y, y = b[i] := ⟨_, rfl⟩
        have cx : wr.cell? ⟨g, o + i, none⟩ = some (.int .i64 x) := by rw [hx]; exact (hC.below hbr hg) i _ (intsI_at h1)
        have cy : wr.cell? ⟨g2, o2 + i, none⟩ = some (.int .i64 y) := by rw [hy]; exact (hC2.below hbr hg2) i _ (intsI_at hib)
        have heq : x = y → a.take (i + 1) = b.take (i + 1) := fun h => take_next h1 hib HT.out (by rw [← hx, ← hy, h])
        have hne : x ≠ y → (a == b) = false := fun h => ne_of_at h1 hib (by rw [← hx, ← hy]; exact h)
        have HEQ := Lib.hid heq; clear heq
        have HNE := Lib.hid hne; clear hne hx hy hC hC2 hib
        by_cases hxy : x = y
        · have e1 : (x != y) = false := by rw [bne_eq_false_iff_eq]; exact hxy
          have e2 := HEQ.out hxy
          have E2 := Lib.hid e2; clear e2
          subst hxy
          go_wp2
          go_quiet (fail)
          go_wp2
          go_roundw
          case rel => exact ⟨i + 1, by omega, by go_num, E2.out, below_drewN hbr _⟩
          case measure => simp [vInt]; omega
        · have e1 : (x != y) = true := by rw [bne_iff_ne]; exact hxy
          have e3 : (x = y) = False := eq_false hxy
          have e2 := HNE.out hxy
          have E2 := Lib.hid e2; clear e2
          go_wp2
          go_quiet (fail)
          go_wp2
          go_ret
          exact ⟨by rw [E2.out]; rfl, below_drewN hbr _⟩
      · have h1' : ((i : Int) < a.length) = False := eq_false (by omega)
        have he : (a == b) = true := by
          have h5 := HT.out
          rw [List.take_of_length_le (by omega), List.take_of_length_le (by have := HAB.out; omega)] at h5
          rw [h5]; simp
        have HE := Lib.hid he; clear he
        go_wp2
        go_ret
        exact ⟨by rw [HE.out]; rfl, hbr⟩
  · have h1 : ((a.length : Int) != b.length) = true := by rw [bne_iff_ne]; omega
    have h2 : ((a.length : Int) = b.length) = False := eq_false (by omega)
    have h4 : (a == b) = false := by rw [beq_eq_false_iff_ne]; rintro rfl; exact hab rfl
    have H4 := Lib.hid h4; clear h4
    go_enter Try.func73, Try.ntmps73
    go_wp2
    go_ret
    exact ⟨by rw [H4.out]; rfl, Below.refl _ _⟩
set_option maxRecDepth 100000 in
theorem sameSets_any (a b : List Int) (s t : Option Addr) (ca cb : Nat) (w : World) (hl : Sz w (.slice s a.length ca) a.length (intsI a)) (hm : Sz w (.slice t b.length cb) b.length (intsI b)) (hn : a.length < 4611686018427387904) :
    Calls Try.prog 15 #[.slice s a.length ca, .slice t b.length cb] w fun e w' => e = .returned (.bool (a == b)) ∧ Below w.heap.size w w' := by
  have hn2 : (a.length : Int) < 4611686018427387904 := by omega
  have HL := Lib.hid hl; clear hl
  have HM := Lib.hid hm; clear hm
  by_cases hab : a.length = b.length
  · have h1 : ((a.length : Int) != b.length) = false := by rw [bne_eq_false_iff_eq]; omega
    have h2 : ((a.length : Int) = b.length) = True := eq_true (by omega)
    have h3 : (a.length = b.length) = True := eq_true hab
    have HAB := Lib.hid hab; clear hab
    go_enter Try.func15, Try.ntmps15
    go_wp2
    clear h1 h2 h3
    go_loopw [5] (fun v wr => ∃ i : Nat, i ≤ a.length ∧ v = .int .i64 i ∧ a.take i = b.take i ∧ Below w.heap.size w wr) (fun v _ => a.length - (vInt v).toNat)
    case atStart => exact ⟨0, Nat.zero_le _, rfl, rfl, Below.refl _ _⟩
    case round =>
      obtain ⟨i, hi, rfl, ht, hbr⟩ := hrel
      have HT := Lib.hid ht; clear ht
      by_cases h1 : i < a.length
      · have h1' : (i : Int) < a.length := by omega
        have hib : i < b.length := by have := HAB.out; omega
        have hib' : (i : Int) < b.length := by omega
        obtain ⟨g, o, rfl, _, _, hC, hg⟩ := sl_at (HL.out (by omega)) (by omega)
        obtain ⟨g2, o2, rfl, _, _, hC2, hg2⟩ := sl_at (HM.out (by omega)) (by omega)
        obtain ⟨x, hx⟩ : ∃ x, x = a[i] := ⟨_, rfl⟩
        obtain ⟨y, hy⟩ : ∃ y, y = b[i] := ⟨_, rfl⟩
        have cx : wr.cell? ⟨g, o + i, none⟩ = some (.int .i64 x) := by rw [hx]; exact (hC.below hbr hg) i _ (intsI_at h1)
        have cy : wr.cell? ⟨g2, o2 + i, none⟩ = some (.int .i64 y) := by rw [hy]; exact (hC2.below hbr hg2) i _ (intsI_at hib)
        have heq : x = y → a.take (i + 1) = b.take (i + 1) := fun h => take_next h1 hib HT.out (by rw [← hx, ← hy, h])
        have hne : x ≠ y → (a == b) = false := fun h => ne_of_at h1 hib (by rw [← hx, ← hy]; exact h)
        have HEQ := Lib.hid heq; clear heq
        have HNE := Lib.hid hne; clear hne hx hy hC hC2 hib
        by_cases hxy : x = y
        · have e1 : (x != y) = false := by rw [bne_eq_false_iff_eq]; exact hxy
          have e2 := HEQ.out hxy
          have E2 := Lib.hid e2; clear e2
          subst hxy
          go_wp2
          go_quiet (fail)
          go_wp2
          go_roundw
          case rel => exact ⟨i + 1, by omega, by go_num, E2.out, below_drewN hbr _⟩
          case measure => simp [vInt]; omega
        · have e1 : (x != y) = true := by rw [bne_iff_ne]; exact hxy
          have e3 : (x = y) = False := eq_false hxy
          have e2 := HNE.out hxy
          have E2 := Lib.hid e2; clear e2
          go_wp2
          go_quiet (fail)
          go_wp2
          go_ret
          exact ⟨by rw [E2.out]; rfl, below_drewN hbr _⟩
      · have h1' : ((i : Int) < a.length) = False := eq_false (by omega)
        have he : (a == b) = true := by
          have h5 := HT.out
          rw [List.take_of_length_le (by omega), List.take_of_length_le (by have := HAB.out; omega)] at h5
          rw [h5]; simp
        have HE := Lib.hid he; clear he
        go_wp2
        go_ret
        exact ⟨by rw [HE.out]; rfl, hbr⟩
  · have h1 : ((a.length : Int) != b.length) = true := by rw [bne_iff_ne]; omega
    have h2 : ((a.length : Int) = b.length) = False := eq_false (by omega)
    have h4 : (a == b) = false := by rw [beq_eq_false_iff_ne]; rintro rfl; exact hab rfl
    have H4 := Lib.hid h4; clear h4
    go_enter Try.func15, Try.ntmps15
    go_wp2
    go_ret
    exact ⟨by rw [H4.out]; rfl, Below.refl _ _⟩
set_option maxRecDepth 100000 in
set_option maxHeartbeats 1600000 in
theorem bsame_any (x y : Num) (w : World) (hx : x.At w) (hy : y.At w) :
    Calls Try.prog 83 #[x.v, y.v] w fun e w' => e = .returned (.bool (x.eqv y)) ∧ Below w.heap.size w w' := by
  obtain ⟨xn, a, s, ca⟩ := x
  obtain ⟨yn, b, t, cb⟩ := y
  have hl0 : Sz w (.slice s a.length ca) a.length (intsI a) := hx.rd
  have hm0 : Sz w (.slice t b.length cb) b.length (intsI b) := hy.rd
  have hn : a.length ≤ AL := hx.len
  have hn2 : (a.length : Int) ≤ 17592186043904 := by unfold AL at hn; omega
  clear hn hx hy
  show Calls Try.prog 83 #[.agg #[.bool xn, .slice s a.length ca], .agg #[.bool yn, .slice t b.length cb]] w fun e w' => e = .returned (.bool (xn == yn && a == b)) ∧ Below w.heap.size w w'
  obtain ⟨W1, hW1⟩ : ∃ W1, W1 = w.alloc (.cells #[.bool xn, .slice s a.length ca] 52) := ⟨_, rfl⟩
  obtain ⟨W2, hW2⟩ : ∃ W2, W2 = W1.alloc (.cells #[.bool yn, .slice t b.length cb] 52) := ⟨_, rfl⟩
  have z1 : W1.heap.size = w.heap.size + 1 := by rw [hW1]; exact alloc_size _ _
  have b1 : Below w.heap.size w W1 := by rw [hW1]; exact alloc_below _ _
  have b2 : Below W1.heap.size W1 W2 := by rw [hW2]; exact alloc_below _ _
  have B1 : Blk W2 w.heap.size [.bool xn, .slice s a.length ca] 52 := (by rw [hW1]; exact Blk.new w #[.bool xn, .slice s a.length ca] 52 : Blk W1 w.heap.size [.bool xn, .slice s a.length ca] 52).below b2 (by omega)
  have B2 : Blk W2 (w.heap.size + 1) [.bool yn, .slice t b.length cb] 52 := by
    rw [hW2, ← z1]; exact Blk.new W1 #[.bool yn, .slice t b.length cb] 52
  have b02 : Below w.heap.size w W2 := b1.trans (b2.mono b1.size)
  have hl : Sz W2 (.slice s a.length ca) a.length (intsI a) := hl0.below b02
  have hm : Sz W2 (.slice t b.length cb) b.length (intsI b) := hm0.below b02
  have q0 : W2.cell? ⟨w.heap.size, 0, none⟩ = some (.bool xn) := B1.cell rfl
  have q1 : W2.cell? ⟨w.heap.size, 1, none⟩ = some (.slice s a.length ca) := B1.cell rfl
  have q2 : W2.cell? ⟨w.heap.size + 1, 0, none⟩ = some (.bool yn) := B2.cell rfl
  have q3 : W2.cell? ⟨w.heap.size + 1, 1, none⟩ = some (.slice t b.length cb) := B2.cell rfl
  have hq : ∀ U, Below W2.heap.size W2 U → U.cell? ⟨w.heap.size, 1, none⟩ = some (.slice s a.length ca) ∧ U.cell? ⟨w.heap.size + 1, 1, none⟩ = some (.slice t b.length cb) := fun U hU => ⟨(B1.below hU B1.lt).cell rfl, (B2.below hU B2.lt).cell rfl⟩
  have HQ := Lib.hid hq; clear hq
  have HL := Lib.hid hl; clear hl hl0
  have HM := Lib.hid hm; clear hm hm0
  have B02 := Lib.hid b02; clear b02 b1 b2 B1 B2 z1
  rw [hW2, hW1] at q0 q1 q2 q3
  have HW1 := Lib.hid hW1; clear hW1
  have HW2 := Lib.hid hW2; clear hW2
  by_cases hxy : xn = yn
  · have hk : (xn == yn) = true := by rw [hxy]; simp
    have HK := Lib.hid hk; clear hk
    have hk2 : (xn != yn) = false := by rw [hxy]; simp
    by_cases hab : a.length = b.length
    · have h1 : ((a.length : Int) != b.length) = false := by rw [bne_eq_false_iff_eq]; omega
      have h2 : ((a.length : Int) = b.length) = True := eq_true (by omega)
      have h3 : (a.length = b.length) = True := eq_true hab
      have HAB := Lib.hid hab; clear hab
      subst hxy
      go_enter Try.func83, Try.ntmps83
      go_wp2
      rw [← HW1.out, ← HW2.out]
      clear h1 h2 h3 q0 q1 q2 q3
      go_loopw [5] (fun v wr => ∃ i : Nat, i ≤ a.length ∧ v = .int .i64 i ∧ a.take i = b.take i ∧ Below W2.heap.size W2 wr) (fun v _ => a.length - (vInt v).toNat)
      case atStart => exact ⟨0, Nat.zero_le _, rfl, rfl, Below.refl _ _⟩
      case round =>
        obtain ⟨i, hi, rfl, ht, hbr⟩ := hrel
        obtain ⟨d1, d3⟩ := HQ.out wr hbr
        have HT := Lib.hid ht; clear ht
        by_cases h1 : i < a.length
        · have h1' : (i : Int) < a.length := by omega
          have hib : i < b.length := by have := HAB.out; omega
          have hib' : (i : Int) < b.length := by omega
          obtain ⟨g, o, rfl, _, _, hC, hg⟩ := sl_at (HL.out (by omega)) (by omega)
          obtain ⟨g2, o2, rfl, _, _, hC2, hg2⟩ := sl_at (HM.out (by omega)) (by omega)
          obtain ⟨x, hx⟩ : ∃ x, x = a[i] := ⟨_, rfl⟩
          obtain ⟨y, hy⟩ : ∃ y, y = b[i] := ⟨_, rfl⟩
          have cx : wr.cell? ⟨g, o + i, none⟩ = some (.int .i64 x) := by rw [hx]; exact (hC.below hbr hg) i _ (intsI_at h1)
          have cy : wr.cell? ⟨g2, o2 + i, none⟩ = some (.int .i64 y) := by rw [hy]; exact (hC2.below hbr hg2) i _ (intsI_at hib)
          have heq : x = y → a.take (i + 1) = b.take (i + 1) := fun h => take_next h1 hib HT.out (by rw [← hx, ← hy, h])
          have hne : x ≠ y → (a == b) = false := fun h => ne_of_at h1 hib (by rw [← hx, ← hy]; exact h)
          have HEQ := Lib.hid heq; clear heq
          have HNE := Lib.hid hne; clear hne hx hy hC hC2 hib
          by_cases hxy : x = y
          · have e1 : (x != y) = false := by rw [bne_eq_false_iff_eq]; exact hxy
            have e2 := HEQ.out hxy
            have E2 := Lib.hid e2; clear e2
            subst hxy
            go_wp2
            go_quiet (fail)
            go_wp2
            go_roundw
            case rel => exact ⟨i + 1, by omega, by go_num, E2.out, below_drewN hbr _⟩
            case measure => simp [vInt]; omega
          · have e1 : (x != y) = true := by rw [bne_iff_ne]; exact hxy
            have e3 : (x = y) = False := eq_false hxy
            have e2 := HNE.out hxy
            have E2 := Lib.hid e2; clear e2
            go_wp2
            go_quiet (fail)
            go_wp2
            go_ret
            exact ⟨by rw [E2.out, HK.out]; rfl, below_drewN (B02.out.trans (hbr.mono B02.out.size)) _⟩
        · have h1' : ((i : Int) < a.length) = False := eq_false (by omega)
          have he : (a == b) = true := by
            have h5 := HT.out
            rw [List.take_of_length_le (by omega), List.take_of_length_le (by have := HAB.out; omega)] at h5
            rw [h5]; simp
          have HE := Lib.hid he; clear he
          go_wp2
          go_ret
          exact ⟨by rw [HE.out, HK.out]; rfl, B02.out.trans (hbr.mono B02.out.size)⟩
    · have h1 : ((a.length : Int) != b.length) = true := by rw [bne_iff_ne]; omega
      have h2 : ((a.length : Int) = b.length) = False := eq_false (by omega)
      have h4 : (a == b) = false := by rw [beq_eq_false_iff_ne]; rintro rfl; exact hab rfl
      have H4 := Lib.hid h4; clear h4
      subst hxy
      go_enter Try.func83, Try.ntmps83
      go_wp2
      go_ret
      exact ⟨by rw [H4.out, Bool.and_false]; rfl, by rw [← HW1.out, ← HW2.out]; exact B02.out⟩
  · have hk : (xn == yn) = false := by rw [beq_eq_false_iff_ne]; exact hxy
    have HK := Lib.hid hk; clear hk
    have hk2 : (xn != yn) = true := by rw [bne_iff_ne]; exact hxy
    go_enter Try.func83, Try.ntmps83
    go_wp2
    go_ret
    exact ⟨by rw [HK.out, Bool.false_and]; rfl, by rw [← HW1.out, ← HW2.out]; exact B02.out⟩
end Go.Proofs.Ytnkinjilnccmfaa
/- order: equal rational numbers and splits, in both packages. -/
namespace Go.Order
open Go.RowKit Go.Own Go.Proofs.Ytnkinjilnccmfaa
/-- two numbers side by side -/
def rcells (x y : Num) : List Value := [.bool x.n, x.sl, .bool y.n, y.sl]
end Go.Order
namespace Go.Proofs.Ytnkinjilnccmfaa
open Go.RowKit Go.Own Go.BigFrame Go.Big Go.Order
set_option maxRecDepth 100000 in
theorem tsame1_any (x y : Num) (w : World) (hx : x.At w) (hy : y.At w) :
    Calls Try.prog 72 #[x.v, y.v] w fun e w' => e = .returned (.bool (x.eqv y)) ∧ Below w.heap.size w w' := by
  obtain ⟨xn, a, s, ca⟩ := x
  obtain ⟨yn, b, t, cb⟩ := y
  have hn : a.length ≤ AL := hx.len
  have hl0 : Sz w (.slice s a.length ca) a.length (intsI a) := hx.rd
  have hm0 : Sz w (.slice t b.length cb) b.length (intsI b) := hy.rd
  have he := fun U (hU : Below w.heap.size w U) => equal_any a b s t ca cb U (hl0.below hU) (hm0.below hU) (by unfold AL at hn; omega)
  clear hn hx hy hl0 hm0
  show Calls Try.prog 72 #[.agg #[.bool xn, .slice s a.length ca], .agg #[.bool yn, .slice t b.length cb]] w fun e w' => e = .returned (.bool (xn == yn && a == b)) ∧ Below w.heap.size w w'
  obtain ⟨W2, hW2⟩ : ∃ W2, W2 = (w.alloc (.cells #[.bool xn, .slice s a.length ca] 52)).alloc (.cells #[.bool yn, .slice t b.length cb] 52) := ⟨_, rfl⟩
  have b02 : Below w.heap.size w W2 := by rw [hW2]; exact (alloc_below _ _).trans ((alloc_below _ _).mono (alloc_below _ _).size)
  have he2 := he W2 b02
  have HE := Lib.hid he2; clear he he2
  have B02 := Lib.hid b02; clear b02
  have HW2 := Lib.hid hW2; clear hW2
  by_cases hxy : xn = yn
  · have hk : (xn == yn) = true := by rw [hxy]; simp
    have HK := Lib.hid hk; clear hk
    subst hxy
    go_enter Try.func72, Try.ntmps72
    go_wp2_with (fail)
    rw [← HW2.out]
    refine HE.out.mono ?_
    rintro e w3 ⟨rfl, b3⟩
    go_wp2
    go_ret
    exact ⟨by rw [HK.out]; rfl, B02.out.trans (b3.mono B02.out.size)⟩
  · have hk : (xn == yn) = false := by rw [beq_eq_false_iff_ne]; exact hxy
    have HK := Lib.hid hk
    go_enter Try.func72, Try.ntmps72
    go_wp2
    go_ret
    exact ⟨by rw [HK.out]; rfl, by rw [← HW2.out]; exact B02.out⟩
set_option maxRecDepth 100000 in
theorem qsame_any (x y x' y' : Num) (w : World) (hx : x.At w) (hy : y.At w) (hx' : x'.At w) (hy' : y'.At w) :
    Calls Try.prog 69 #[.agg (rcells x y).toArray, .agg (rcells x' y').toArray] w fun e w' => e = .returned (.bool (x.eqv x' && y.eqv y')) ∧ Below w.heap.size w w' := by
  have he1 := fun U (hU : Below w.heap.size w U) => bsame_any x x' U (hx.below hU) (hx'.below hU)
  have he2 := fun U (hU : Below w.heap.size w U) => bsame_any y y' U (hy.below hU) (hy'.below hU)
  obtain ⟨r1, hr1⟩ : ∃ r1, r1 = x.eqv x' := ⟨_, rfl⟩
  obtain ⟨r2, hr2⟩ : ∃ r2, r2 = y.eqv y' := ⟨_, rfl⟩
  rw [← hr1] at he1 ⊢
  rw [← hr2] at he2 ⊢
  clear hr1 hr2 hx hx' hy hy'
  obtain ⟨xn, a, s, ca⟩ := x
  obtain ⟨yn, b, t, cb⟩ := y
  obtain ⟨xn', a', s', ca'⟩ := x'
  obtain ⟨yn', b', t', cb'⟩ := y'
  obtain ⟨va, hva⟩ : ∃ va : Value, va = .slice s a.length ca := ⟨_, rfl⟩
  obtain ⟨vb, hvb⟩ : ∃ vb : Value, vb = .slice t b.length cb := ⟨_, rfl⟩
  obtain ⟨va', hva'⟩ : ∃ va' : Value, va' = .slice s' a'.length ca' := ⟨_, rfl⟩
  obtain ⟨vb', hvb'⟩ : ∃ vb' : Value, vb' = .slice t' b'.length cb' := ⟨_, rfl⟩
  have hf1 : ∀ U, Below w.heap.size w U → Calls Try.prog 83 #[.agg #[.bool xn, va], .agg #[.bool xn', va']] U fun e w' => e = .returned (.bool r1) ∧ Below U.heap.size U w' := fun U hU => by rw [hva, hva']; exact he1 U hU
  have hf2 : ∀ U, Below w.heap.size w U → Calls Try.prog 83 #[.agg #[.bool yn, vb], .agg #[.bool yn', vb']] U fun e w' => e = .returned (.bool r2) ∧ Below U.heap.size U w' := fun U hU => by rw [hvb, hvb']; exact he2 U hU
  show Calls Try.prog 69 #[.agg #[.bool xn, .slice s a.length ca, .bool yn, .slice t b.length cb], .agg #[.bool xn', .slice s' a'.length ca', .bool yn', .slice t' b'.length cb']] w _
  rw [← hva, ← hvb, ← hva', ← hvb']
  clear hva hvb hva' hvb' he1 he2
  obtain ⟨W1, hW1⟩ : ∃ W1, W1 = w.alloc (.cells #[.bool xn, va, .bool yn, vb] 54) := ⟨_, rfl⟩
  obtain ⟨W2, hW2⟩ : ∃ W2, W2 = W1.alloc (.cells #[.bool xn', va', .bool yn', vb'] 54) := ⟨_, rfl⟩
  have z1 : W1.heap.size = w.heap.size + 1 := by rw [hW1]; exact alloc_size _ _
  have b1 : Below w.heap.size w W1 := by rw [hW1]; exact alloc_below _ _
  have b2 : Below W1.heap.size W1 W2 := by rw [hW2]; exact alloc_below _ _
  have B1 : Blk W2 w.heap.size [.bool xn, va, .bool yn, vb] 54 := (by rw [hW1]; exact Blk.new w #[.bool xn, va, .bool yn, vb] 54 : Blk W1 w.heap.size [.bool xn, va, .bool yn, vb] 54).below b2 (by omega)
  have B2 : Blk W2 (w.heap.size + 1) [.bool xn', va', .bool yn', vb'] 54 := by
    rw [hW2, ← z1]; exact Blk.new W1 #[.bool xn', va', .bool yn', vb'] 54
  have b02 : Below w.heap.size w W2 := b1.trans (b2.mono b1.size)
  have F1 := Lib.hid (hf1 W2 b02); clear hf1
  have F2 := Lib.hid hf2; clear hf2
  have B02 := Lib.hid b02; clear b02 b1 b2 z1
  have HB1 := Lib.hid B1; clear B1
  have HB2 := Lib.hid B2; clear B2
  have HW1 := Lib.hid hW1; clear hW1
  have HW2 := Lib.hid hW2; clear hW2
  go_enter Try.func69, Try.ntmps69
  go_wp2_with (fail)
  rw [← HW1.out, ← HW2.out]
  refine F1.out.mono ?_
  rintro e w3 ⟨rfl, b3⟩
  have b3' : Below w.heap.size w w3 := B02.out.trans (b3.mono B02.out.size)
  cases r1 with
  | false =>
    go_wp2
    go_ret
    exact ⟨rfl, b3'⟩
  | true =>
    have k1 := HB1.out.below b3 HB1.out.lt
    have k2 := HB2.out.below b3 HB2.out.lt
    have c1 : w3.cell? ⟨w.heap.size, 2, none⟩ = some (.bool yn) := k1.cell rfl
    have c2 : w3.cell? ⟨w.heap.size, 3, none⟩ = some vb := k1.cell rfl
    have c3 : w3.cell? ⟨w.heap.size + 1, 2, none⟩ = some (.bool yn') := k2.cell rfl
    have c4 : w3.cell? ⟨w.heap.size + 1, 3, none⟩ = some vb' := k2.cell rfl
    have HB3 := Lib.hid b3'; clear b3' b3 k1 k2
    go_wp2_with (fail)
    refine (F2.out w3 HB3.out).mono ?_
    rintro e w4 ⟨rfl, b4⟩
    clear c1 c2 c3 c4
    go_wp2
    go_ret
    exact ⟨rfl, HB3.out.trans (b4.mono HB3.out.size)⟩
set_option maxRecDepth 100000 in
theorem tsame_any (x y x' y' : Num) (w : World) (hx : x.At w) (hy : y.At w) (hx' : x'.At w) (hy' : y'.At w) :
    Calls Try.prog 46 #[.agg (rcells x y).toArray, .agg (rcells x' y').toArray] w fun e w' => e = .returned (.bool (x.eqv x' && y.eqv y')) ∧ Below w.heap.size w w' := by
  have he1 := fun U (hU : Below w.heap.size w U) => tsame1_any x x' U (hx.below hU) (hx'.below hU)
  have he2 := fun U (hU : Below w.heap.size w U) => tsame1_any y y' U (hy.below hU) (hy'.below hU)
  obtain ⟨r1, hr1⟩ : ∃ r1, r1 = x.eqv x' := ⟨_, rfl⟩
  obtain ⟨r2, hr2⟩ : ∃ r2, r2 = y.eqv y' := ⟨_, rfl⟩
  rw [← hr1] at he1 ⊢
  rw [← hr2] at he2 ⊢
  clear hr1 hr2 hx hx' hy hy'
  obtain ⟨xn, a, s, ca⟩ := x
  obtain ⟨yn, b, t, cb⟩ := y
  obtain ⟨xn', a', s', ca'⟩ := x'
  obtain ⟨yn', b', t', cb'⟩ := y'
  obtain ⟨va, hva⟩ : ∃ va : Value, va = .slice s a.length ca := ⟨_, rfl⟩
  obtain ⟨vb, hvb⟩ : ∃ vb : Value, vb = .slice t b.length cb := ⟨_, rfl⟩
  obtain ⟨va', hva'⟩ : ∃ va' : Value, va' = .slice s' a'.length ca' := ⟨_, rfl⟩
  obtain ⟨vb', hvb'⟩ : ∃ vb' : Value, vb' = .slice t' b'.length cb' := ⟨_, rfl⟩
  have hf1 : ∀ U, Below w.heap.size w U → Calls Try.prog 72 #[.agg #[.bool xn, va], .agg #[.bool xn', va']] U fun e w' => e = .returned (.bool r1) ∧ Below U.heap.size U w' := fun U hU => by rw [hva, hva']; exact he1 U hU
  have hf2 : ∀ U, Below w.heap.size w U → Calls Try.prog 72 #[.agg #[.bool yn, vb], .agg #[.bool yn', vb']] U fun e w' => e = .returned (.bool r2) ∧ Below U.heap.size U w' := fun U hU => by rw [hvb, hvb']; exact he2 U hU
  show Calls Try.prog 46 #[.agg #[.bool xn, .slice s a.length ca, .bool yn, .slice t b.length cb], .agg #[.bool xn', .slice s' a'.length ca', .bool yn', .slice t' b'.length cb']] w _
  rw [← hva, ← hvb, ← hva', ← hvb']
  clear hva hvb hva' hvb' he1 he2
  obtain ⟨W1, hW1⟩ : ∃ W1, W1 = w.alloc (.cells #[.bool xn, va, .bool yn, vb] 54) := ⟨_, rfl⟩
  obtain ⟨W2, hW2⟩ : ∃ W2, W2 = W1.alloc (.cells #[.bool xn', va', .bool yn', vb'] 54) := ⟨_, rfl⟩
  have z1 : W1.heap.size = w.heap.size + 1 := by rw [hW1]; exact alloc_size _ _
  have b1 : Below w.heap.size w W1 := by rw [hW1]; exact alloc_below _ _
  have b2 : Below W1.heap.size W1 W2 := by rw [hW2]; exact alloc_below _ _
  have B1 : Blk W2 w.heap.size [.bool xn, va, .bool yn, vb] 54 := (by rw [hW1]; exact Blk.new w #[.bool xn, va, .bool yn, vb] 54 : Blk W1 w.heap.size [.bool xn, va, .bool yn, vb] 54).below b2 (by omega)
  have B2 : Blk W2 (w.heap.size + 1) [.bool xn', va', .bool yn', vb'] 54 := by
    rw [hW2, ← z1]; exact Blk.new W1 #[.bool xn', va', .bool yn', vb'] 54
  have b02 : Below w.heap.size w W2 := b1.trans (b2.mono b1.size)
  have F1 := Lib.hid (hf1 W2 b02); clear hf1
  have F2 := Lib.hid hf2; clear hf2
  have B02 := Lib.hid b02; clear b02 b1 b2 z1
  have HB1 := Lib.hid B1; clear B1
  have HB2 := Lib.hid B2; clear B2
  have HW1 := Lib.hid hW1; clear hW1
  have HW2 := Lib.hid hW2; clear hW2
  go_enter Try.func46, Try.ntmps46
  go_wp2_with (fail)
  rw [← HW1.out, ← HW2.out]
  refine F1.out.mono ?_
  rintro e w3 ⟨rfl, b3⟩
  have b3' : Below w.heap.size w w3 := B02.out.trans (b3.mono B02.out.size)
  cases r1 with
  | false =>
    go_wp2
    go_ret
    exact ⟨rfl, b3'⟩
  | true =>
    have k1 := HB1.out.below b3 HB1.out.lt
    have k2 := HB2.out.below b3 HB2.out.lt
    have c1 : w3.cell? ⟨w.heap.size, 2, none⟩ = some (.bool yn) := k1.cell rfl
    have c2 : w3.cell? ⟨w.heap.size, 3, none⟩ = some vb := k1.cell rfl
    have c3 : w3.cell? ⟨w.heap.size + 1, 2, none⟩ = some (.bool yn') := k2.cell rfl
    have c4 : w3.cell? ⟨w.heap.size + 1, 3, none⟩ = some vb' := k2.cell rfl
    have HB3 := Lib.hid b3'; clear b3' b3 k1 k2
    go_wp2_with (fail)
    refine (F2.out w3 HB3.out).mono ?_
    rintro e w4 ⟨rfl, b4⟩
    clear c1 c2 c3 c4
    go_wp2
    go_ret
    exact ⟨rfl, HB3.out.trans (b4.mono HB3.out.size)⟩
end Go.Proofs.Ytnkinjilnccmfaa
/- order: the reference's Same of splits, SameAll, in. -/
namespace Go.Proofs.Ytnkinjilnccmfaa
open Go.RowKit Go.Own Go.BigFrame Go.Big Go.Order
set_option maxRecDepth 100000 in
set_option maxHeartbeats 1600000 in
theorem rsame_any (x y : Spl) (w : World) (hx : x.At w) (hy : y.At w) :
    Calls Try.prog 41 #[x.v, y.v] w fun e w' => e = .returned (.bool (x.eqv y)) ∧ Below w.heap.size w w' := by
  have he1 := fun U (hU : Below w.heap.size w U) => qsame_any x.a x.b y.a y.b U (hx.below hU).a (hx.below hU).b (hy.below hU).a (hy.below hU).b
  have he2 := fun U (hU : Below w.heap.size w U) => qsame_any x.c x.d y.c y.d U (hx.below hU).c (hx.below hU).d (hy.below hU).c (hy.below hU).d
  have heq : x.eqv y = (x.w == y.w && x.p == y.p && (x.a.eqv y.a && x.b.eqv y.b) && (x.c.eqv y.c && x.d.eqv y.d)) := rfl
  rw [heq]
  clear heq
  obtain ⟨r1, hr1⟩ : ∃ r1, r1 = (x.a.eqv y.a && x.b.eqv y.b) := ⟨_, rfl⟩
  obtain ⟨r2, hr2⟩ : ∃ r2, r2 = (x.c.eqv y.c && x.d.eqv y.d) := ⟨_, rfl⟩
  rw [← hr1] at he1 ⊢
  rw [← hr2] at he2 ⊢
  clear hr1 hr2 hx hy
  obtain ⟨xw, xp, ⟨na, da, sa, ca⟩, ⟨nb, db, sb, cb⟩, ⟨nc, dc, sc, cc⟩, ⟨nd, dd, sd, cd⟩⟩ := x
  obtain ⟨xw', xp', ⟨na', da', sa', ca'⟩, ⟨nb', db', sb', cb'⟩, ⟨nc', dc', sc', cc'⟩, ⟨nd', dd', sd', cd'⟩⟩ := y
  obtain ⟨va, hva⟩ : ∃ va : Value, va = .slice sa da.length ca := ⟨_, rfl⟩
  obtain ⟨vb, hvb⟩ : ∃ vb : Value, vb = .slice sb db.length cb := ⟨_, rfl⟩
  obtain ⟨vc, hvc⟩ : ∃ vc : Value, vc = .slice sc dc.length cc := ⟨_, rfl⟩
  obtain ⟨vd, hvd⟩ : ∃ vd : Value, vd = .slice sd dd.length cd := ⟨_, rfl⟩
  obtain ⟨va', hva'⟩ : ∃ va' : Value, va' = .slice sa' da'.length ca' := ⟨_, rfl⟩
  obtain ⟨vb', hvb'⟩ : ∃ vb' : Value, vb' = .slice sb' db'.length cb' := ⟨_, rfl⟩
  obtain ⟨vc', hvc'⟩ : ∃ vc' : Value, vc' = .slice sc' dc'.length cc' := ⟨_, rfl⟩
  obtain ⟨vd', hvd'⟩ : ∃ vd' : Value, vd' = .slice sd' dd'.length cd' := ⟨_, rfl⟩
  have hf1 : ∀ U, Below w.heap.size w U → Calls Try.prog 69 #[.agg #[.bool na, va, .bool nb, vb], .agg #[.bool na', va', .bool nb', vb']] U fun e w' => e = .returned (.bool r1) ∧ Below U.heap.size U w' := fun U hU => by rw [hva, hva', hvb, hvb']; exact he1 U hU
  have hf2 : ∀ U, Below w.heap.size w U → Calls Try.prog 69 #[.agg #[.bool nc, vc, .bool nd, vd], .agg #[.bool nc', vc', .bool nd', vd']] U fun e w' => e = .returned (.bool r2) ∧ Below U.heap.size U w' := fun U hU => by rw [hvc, hvc', hvd, hvd']; exact he2 U hU
  show Calls Try.prog 41 #[.agg #[.int .i64 xw, .int .i64 xp, .bool na, .slice sa da.length ca, .bool nb, .slice sb db.length cb, .bool nc, .slice sc dc.length cc, .bool nd, .slice sd dd.length cd], .agg #[.int .i64 xw', .int .i64 xp', .bool na', .slice sa' da'.length ca', .bool nb', .slice sb' db'.length cb', .bool nc', .slice sc' dc'.length cc', .bool nd', .slice sd' dd'.length cd']] w fun e w' => e = .returned (.bool (xw == xw' && xp == xp' && r1 && r2)) ∧ Below w.heap.size w w'
  rw [← hva, ← hvb, ← hvc, ← hvd, ← hva', ← hvb', ← hvc', ← hvd']
  clear hva hvb hvc hvd hva' hvb' hvc' hvd' he1 he2
  obtain ⟨W1, hW1⟩ : ∃ W1, W1 = w.alloc (.cells #[.int .i64 xw, .int .i64 xp, .bool na, va, .bool nb, vb, .bool nc, vc, .bool nd, vd] 58) := ⟨_, rfl⟩
  obtain ⟨W2, hW2⟩ : ∃ W2, W2 = W1.alloc (.cells #[.int .i64 xw', .int .i64 xp', .bool na', va', .bool nb', vb', .bool nc', vc', .bool nd', vd'] 58) := ⟨_, rfl⟩
  have z1 : W1.heap.size = w.heap.size + 1 := by rw [hW1]; exact alloc_size _ _
  have b1 : Below w.heap.size w W1 := by rw [hW1]; exact alloc_below _ _
  have b2 : Below W1.heap.size W1 W2 := by rw [hW2]; exact alloc_below _ _
  have B1 : Blk W2 w.heap.size [.int .i64 xw, .int .i64 xp, .bool na, va, .bool nb, vb, .bool nc, vc, .bool nd, vd] 58 := (by rw [hW1]; exact Blk.new w #[.int .i64 xw, .int .i64 xp, .bool na, va, .bool nb, vb, .bool nc, vc, .bool nd, vd] 58 : Blk W1 w.heap.size [.int .i64 xw, .int .i64 xp, .bool na, va, .bool nb, vb, .bool nc, vc, .bool nd, vd] 58).below b2 (by omega)
  have B2 : Blk W2 (w.heap.size + 1) [.int .i64 xw', .int .i64 xp', .bool na', va', .bool nb', vb', .bool nc', vc', .bool nd', vd'] 58 := by
    rw [hW2, ← z1]; exact Blk.new W1 #[.int .i64 xw', .int .i64 xp', .bool na', va', .bool nb', vb', .bool nc', vc', .bool nd', vd'] 58
  have b02 : Below w.heap.size w W2 := b1.trans (b2.mono b1.size)
  have F1 := Lib.hid (hf1 W2 b02); clear hf1
  have F2 := Lib.hid hf2; clear hf2
  have HBB : ∀ U, Below W2.heap.size W2 U → (∀ j v, [.int .i64 xw, .int .i64 xp, .bool na, va, .bool nb, vb, .bool nc, vc, .bool nd, vd][j]? = some v → U.cell? ⟨w.heap.size, j, none⟩ = some v) ∧ (∀ j v, [.int .i64 xw', .int .i64 xp', .bool na', va', .bool nb', vb', .bool nc', vc', .bool nd', vd'][j]? = some v → U.cell? ⟨w.heap.size + 1, j, none⟩ = some v) := fun U hU => ⟨fun j v h => (B1.below hU B1.lt).cell h, fun j v h => (B2.below hU B2.lt).cell h⟩
  have HCC := Lib.hid HBB; clear HBB
  have B02 := Lib.hid b02; clear b02 b1 b2 z1 B1 B2
  have HW1 := Lib.hid hW1; clear hW1
  have HW2 := Lib.hid hW2; clear hW2
  have fin : ∀ u : Bool, u = (xw == xw' && xp == xp' && r1 && r2) → Ending.returned (.bool u) = .returned (.bool (xw == xw' && xp == xp' && r1 && r2)) := fun u h => by rw [h]
  have FIN := Lib.hid fin; clear fin
  by_cases hw : xw = xw'
  · have HWQ := Lib.hid (show (xw == xw') = true by rw [hw]; simp)
    subst hw
    by_cases hp : xp = xp'
    · have HPQ := Lib.hid (show (xp == xp') = true by rw [hp]; simp)
      subst hp
      go_enter Try.func41, Try.ntmps41
      go_wp2_with (fail)
      rw [← HW1.out, ← HW2.out]
      refine F1.out.mono ?_
      rintro e w3 ⟨rfl, b3⟩
      have b3' : Below w.heap.size w w3 := B02.out.trans (b3.mono B02.out.size)
      cases r1 with
      | false =>
        go_wp2
        go_ret
        exact ⟨FIN.out _ (by simp), b3'⟩
      | true =>
        obtain ⟨k1, k2⟩ := HCC.out w3 b3
        have c1 : w3.cell? ⟨w.heap.size, 6, none⟩ = some (.bool nc) := k1 6 _ rfl
        have c2 : w3.cell? ⟨w.heap.size, 7, none⟩ = some vc := k1 7 _ rfl
        have c3 : w3.cell? ⟨w.heap.size, 8, none⟩ = some (.bool nd) := k1 8 _ rfl
        have c4 : w3.cell? ⟨w.heap.size, 9, none⟩ = some vd := k1 9 _ rfl
        have c5 : w3.cell? ⟨w.heap.size + 1, 6, none⟩ = some (.bool nc') := k2 6 _ rfl
        have c6 : w3.cell? ⟨w.heap.size + 1, 7, none⟩ = some vc' := k2 7 _ rfl
        have c7 : w3.cell? ⟨w.heap.size + 1, 8, none⟩ = some (.bool nd') := k2 8 _ rfl
        have c8 : w3.cell? ⟨w.heap.size + 1, 9, none⟩ = some vd' := k2 9 _ rfl
        have HB3 := Lib.hid b3'; clear b3' b3 k1 k2
        go_wp2_with (fail)
        refine (F2.out w3 HB3.out).mono ?_
        rintro e w4 ⟨rfl, b4⟩
        clear c1 c2 c3 c4 c5 c6 c7 c8
        go_wp2
        go_ret
        exact ⟨FIN.out _ (by simp), HB3.out.trans (b4.mono HB3.out.size)⟩
    · have HPQ := Lib.hid (show (xp == xp') = false by rw [beq_eq_false_iff_ne]; exact hp)
      have hp2 : (xp = xp') = False := eq_false hp
      have hp3 : (xp == xp') = false := HPQ.out
      go_enter Try.func41, Try.ntmps41
      go_wp2
      go_ret
      exact ⟨FIN.out _ (by rw [HPQ.out]; simp), by rw [← HW1.out, ← HW2.out]; exact B02.out⟩
  · have HWQ := Lib.hid (show (xw == xw') = false by rw [beq_eq_false_iff_ne]; exact hw)
    have hw2 : (xw = xw') = False := eq_false hw
    have hw3 : (xw == xw') = false := HWQ.out
    go_enter Try.func41, Try.ntmps41
    go_wp2
    go_ret
    exact ⟨FIN.out _ (by rw [HWQ.out]; simp), by rw [← HW1.out, ← HW2.out]; exact B02.out⟩
end Go.Proofs.Ytnkinjilnccmfaa
/- order: the reference's SameAll and in. -/
namespace Go.Order
open Go.RowKit Go.Own Go.Proofs.Ytnkinjilnccmfaa
def eqvL : List Spl → List Spl → Bool
  | [], [] => true
  | x :: a, y :: b => x.eqv y && eqvL a b
  | _, _ => false
theorem eqvL_iff : ∀ {a b : List Spl}, eqvL a b = true ↔ a.length = b.length ∧ ∀ i (h : i < a.length) (h' : i < b.length), a[i].eqv b[i] = true
  | [], [] => by simp [eqvL]
  | [], y :: b => by simp [eqvL]
  | x :: a, [] => by simp [eqvL]
  | x :: a, y :: b => by
    unfold eqvL
    rw [Bool.and_eq_true, eqvL_iff (a := a) (b := b)]
    constructor
    · rintro ⟨h1, h2, h3⟩
      refine ⟨by simp [h2], fun i h h' => ?_⟩
      cases i with
      | zero => exact h1
      | succ i => exact h3 i (by simpa using h) (by simpa using h')
    · rintro ⟨h2, h3⟩
      refine ⟨h3 0 (by simp) (by simp), by simpa using h2, fun i h h' => h3 (i + 1) (by simpa using h) (by simpa using h')⟩
theorem eqvL_len {a b : List Spl} (h : ¬ a.length = b.length) : eqvL a b = false := by
  cases he : eqvL a b with
  | false => rfl
  | true => exact absurd (eqvL_iff.1 he).1 h
theorem eqvL_at {a b : List Spl} {i : Nat} (h : i < a.length) (h' : i < b.length) (e : a[i].eqv b[i] = false) : eqvL a b = false := by
  cases he : eqvL a b with
  | false => rfl
  | true => rw [(eqvL_iff.1 he).2 i h h'] at e; cases e
theorem Lst.cells {w : World} {b off : Nat} {l : List Spl} {i : Nat} (hC : ∀ i j v, (h : i < l.length) → l[i].cells[j]? = some v → w.cell? ⟨b, off + i * 10 + j, none⟩ = some v) (h : i < l.length) : Cells w b (off + i * 10) l[i].cells := fun j v hj => hC i j v h hj
end Go.Order
namespace Go.Proofs.Ytnkinjilnccmfaa
open Go.RowKit Go.Own Go.BigFrame Go.Big Go.Order
theorem infoS' (x : Spl) : (Try.prog.info? 58).map (·.size) = some x.cells.length := infoS
attribute [local irreducible] SqC.SqW
set_option maxRecDepth 100000 in
set_option maxHeartbeats 3200000 in
theorem sameAll_any (a b : List Spl) (s t : Option Addr) (ca cb : Nat) (w : World) (hl : Lst w (.slice s a.length ca) a) (hm : Lst w (.slice t b.length cb) b) (hn : a.length < 4611686018427387904) :
    Calls Try.prog 14 #[.slice s a.length ca, .slice t b.length cb] w fun e w' => e = .returned (.bool (eqvL a b)) ∧ Below w.heap.size w w' := by
  have hn2 : (a.length : Int) < 4611686018427387904 := by omega
  have HL := Lib.hid hl; clear hl
  have HM := Lib.hid hm; clear hm
  by_cases hab : a.length = b.length
  · have h1 : ((a.length : Int) != b.length) = false := by rw [bne_eq_false_iff_eq]; omega
    have h2 : ((a.length : Int) = b.length) = True := eq_true (by omega)
    have h3 : (a.length = b.length) = True := eq_true hab
    have HAB := Lib.hid hab; clear hab
    go_enter Try.func14, Try.ntmps14
    go_wp2
    clear h1 h2 h3
    go_loopw [5] (fun v wr => ∃ i : Nat, i ≤ a.length ∧ v = .int .i64 i ∧ (∀ j (h : j < a.length) (h' : j < b.length), j < i → a[j].eqv b[j] = true) ∧ Below w.heap.size w wr) (fun v _ => a.length - (vInt v).toNat)
    case atStart => exact ⟨0, Nat.zero_le _, rfl, fun j _ _ h => by omega, Below.refl _ _⟩
    case round =>
      obtain ⟨i, hi, rfl, ht, hbr⟩ := hrel
      have HT := Lib.hid ht; clear ht
      by_cases h1 : i < a.length
      · have h1' : (i : Int) < a.length := by omega
        have hib : i < b.length := by have := HAB.out; omega
        have hib' : (i : Int) < b.length := by omega
        obtain ⟨g, o, rfl, _, _, _, hC, hg⟩ := HL.out.at (by omega)
        obtain ⟨g2, o2, rfl, _, _, _, hC2, hg2⟩ := HM.out.at (by omega)
        have cA := Lst.cells hC h1
        have cB := Lst.cells hC2 hib
        have xA := HL.out.at' a[i] (List.getElem_mem h1)
        have xB := HM.out.at' b[i] (List.getElem_mem hib)
        have hst : a[i].eqv b[i] = true → ∀ j (h : j < a.length) (h' : j < b.length), j < i + 1 → a[j].eqv b[j] = true := fun he j h h' hj => by
          by_cases e : j = i
          · subst e; exact he
          · exact HT.out j h h' (by omega)
        have hne : a[i].eqv b[i] = false → eqvL a b = false := fun he => eqvL_at h1 hib he
        obtain ⟨x, hx⟩ : ∃ x, x = a[i] := ⟨_, rfl⟩
        obtain ⟨y, hy⟩ : ∃ y, y = b[i] := ⟨_, rfl⟩
        rw [← hx] at cA xA hst hne
        rw [← hy] at cB xB hst hne
        have hsm := fun U (hU : Below w.heap.size w U) => rsame_any x y U (xA.below hU) (xB.below hU)
        have hlA : ∀ U, Below w.heap.size w U → (loadVar 58 ⟨g, o + i * 10, none⟩).run Try.prog U = .ok x.v U := fun U hU => run_load_agg (P := Try.prog) (ty := 58) (cA.below hU hg) aggS (infoS' x)
        have hlB : ∀ U, Below w.heap.size w U → (loadVar 58 ⟨g2, o2 + i * 10, none⟩).run Try.prog U = .ok y.v U := fun U hU => run_load_agg (P := Try.prog) (ty := 58) (cB.below hU hg2) aggS (infoS' y)
        obtain ⟨vx, hvx⟩ : ∃ vx, vx = x.v := ⟨_, rfl⟩
        obtain ⟨vy, hvy⟩ : ∃ vy, vy = y.v := ⟨_, rfl⟩
        rw [← hvx] at hlA
        rw [← hvy] at hlB
        rw [← hvx, ← hvy] at hsm
        obtain ⟨r, hr⟩ : ∃ r, r = x.eqv y := ⟨_, rfl⟩
        rw [← hr] at hsm hst hne
        clear hvx hvy hr
        have LA := Lib.hid hlA; clear hlA cA xA hC
        have LB := Lib.hid hlB; clear hlB cB xB hC2
        have SM := Lib.hid hsm; clear hsm
        have HST := Lib.hid hst; clear hst
        have HNE := Lib.hid hne; clear hne hx hy hib
        have eX : Below w.heap.size w wr.drew := hbr.drew
        clear hbr
        go_wp2
        haveI : Nonempty (SqC.Come fun U : World => Below w.heap.size w U) := ⟨⟨_, eX⟩⟩
        refine SqC.wp_region_sqc 10 [8] (fun U : World => Below w.heap.size w U) (by kernel_rfl) (by kernel_rfl) (by kernel_rfl) eX ?_
        obtain ⟨wd, hwd⟩ : ∃ wd : World, wd = wr.drew := ⟨_, rfl⟩
        rw [← hwd] at eX ⊢
        clear hwd
        iterate 3 (refine SqC.quiet rfl rfl ?_; go_big_quiet_step (fail); refine wpQuiet_nil ?_)
        refine SqC.value vx rfl rfl (fun U hU => load_agg_exec rfl rfl (LA.out U hU)) ?_
        simp only [Act.put, List.setIfInBounds_toArray, List.set_cons_zero, List.set_cons_succ]
        iterate 3 (refine SqC.quiet rfl rfl ?_; go_big_quiet_step (fail); refine wpQuiet_nil ?_)
        refine SqC.value vy rfl rfl (fun U hU => load_agg_exec rfl rfl (LB.out U hU)) ?_
        simp only [Act.put, List.setIfInBounds_toArray, List.set_cons_zero, List.set_cons_succ]
        refine SqC.effect rfl rfl ?_
        refine yields_call rfl (by kernel_rfl) rfl rfl ((SM.out wd eX).mono ?_)
        rintro e w5 ⟨rfl, b5⟩
        have eX5 : Below w.heap.size w w5 := eX.trans (b5.mono eX.size)
        refine ⟨_, rfl, fun _ => eX5, ?_⟩
        simp only [Act.put, List.setIfInBounds_toArray, List.set_cons_zero, List.set_cons_succ]
        have EX5 := Lib.hid eX5; clear eX5 eX b5
        cases r with
        | true =>
          refine SqC.value (.bool false) rfl rfl (by intro U hU; go_simp) ?_
          simp only [Act.put, List.setIfInBounds_toArray, List.set_cons_zero, List.set_cons_succ]
          refine SqC.nil ?_
          have HS := Lib.hid (HST.out rfl)
          go_wp2
          go_roundw
          case rel => exact ⟨i + 1, by omega, by go_num, HS.out, EX5.out⟩
          case measure => simp [vInt]; omega
        | false =>
          refine SqC.value (.bool true) rfl rfl (by intro U hU; go_simp) ?_
          simp only [Act.put, List.setIfInBounds_toArray, List.set_cons_zero, List.set_cons_succ]
          refine SqC.nil ?_
          have HS := Lib.hid (HNE.out rfl)
          go_wp2
          go_ret
          exact ⟨by rw [HS.out]; rfl, EX5.out⟩
      · have h1' : ((i : Int) < a.length) = False := eq_false (by omega)
        have he : eqvL a b = true := eqvL_iff.2 ⟨HAB.out, fun j h h' => HT.out j h h' (by omega)⟩
        have HE := Lib.hid he; clear he
        go_wp2
        go_ret
        exact ⟨by rw [HE.out]; rfl, hbr⟩
  · have h1 : ((a.length : Int) != b.length) = true := by rw [bne_iff_ne]; omega
    have h2 : ((a.length : Int) = b.length) = False := eq_false (by omega)
    have h4 := eqvL_len hab
    have H4 := Lib.hid h4; clear h4
    go_enter Try.func14, Try.ntmps14
    go_wp2
    go_ret
    exact ⟨by rw [H4.out]; rfl, Below.refl _ _⟩
set_option maxRecDepth 100000 in
set_option maxHeartbeats 3200000 in
theorem rin_any (a : List Spl) (y : Spl) (s : Option Addr) (cz : Nat) (w : World) (hl : Lst w (.slice s a.length cz) a) (hy : y.At w) (hn : a.length < 4611686018427387904) :
    Calls Try.prog 74 #[.slice s a.length cz, y.v] w fun e w' => e = .returned (.bool (a.any fun x => x.eqv y)) ∧ Below w.heap.size w w' := by
  have hn2 : (a.length : Int) < 4611686018427387904 := by omega
  obtain ⟨W1, hW1⟩ : ∃ W1, W1 = w.alloc (.cells y.cells.toArray 58) := ⟨_, rfl⟩
  have b1 : Below w.heap.size w W1 := by rw [hW1]; exact alloc_below _ _
  have B1 : Blk W1 w.heap.size y.cells 58 := by rw [hW1]; exact Blk.new w y.cells.toArray 58
  have hl1 := hl.below b1
  have hy1 := hy.below b1
  obtain ⟨vy, hvy⟩ : ∃ vy, vy = y.v := ⟨_, rfl⟩
  have hlB : ∀ U, Below W1.heap.size W1 U → (loadVar 58 ⟨w.heap.size, 0, none⟩).run Try.prog U = .ok vy U := fun U hU => by rw [hvy]; exact run_load_agg (P := Try.prog) (ty := 58) (B1.below hU B1.lt).cells0 aggS (infoS' y)
  have hsm0 : ∀ (x : Spl) U, x.At W1 → Below W1.heap.size W1 U → Calls Try.prog 41 #[x.v, vy] U fun e w' => e = .returned (.bool (x.eqv y)) ∧ Below U.heap.size U w' := fun x U hx hU => by rw [hvy]; exact rsame_any x y U (hx.below hU) (hy1.below hU)
  obtain ⟨f, hf⟩ : ∃ f : Spl → Bool, f = fun x => x.eqv y := ⟨_, rfl⟩
  have hsm : ∀ (x : Spl) U, x.At W1 → Below W1.heap.size W1 U → Calls Try.prog 41 #[x.v, vy] U fun e w' => e = .returned (.bool (f x)) ∧ Below U.heap.size U w' := by rw [hf]; exact hsm0
  rw [← hf]
  have HL := Lib.hid hl1; clear hl hl1
  have SM := Lib.hid hsm; clear hsm hsm0 hf
  have LB := Lib.hid hlB; clear hlB B1
  have HB1 := Lib.hid b1; clear b1 hy hy1
  obtain ⟨xw, xp, ⟨na, da, sa, ca⟩, ⟨nb, db, sb, cb⟩, ⟨nc, dc, sc, cc⟩, ⟨nd, dd, sd, cd⟩⟩ := y
  obtain ⟨va, hva⟩ : ∃ va : Value, va = .slice sa da.length ca := ⟨_, rfl⟩
  obtain ⟨vb, hvb⟩ : ∃ vb : Value, vb = .slice sb db.length cb := ⟨_, rfl⟩
  obtain ⟨vc, hvc⟩ : ∃ vc : Value, vc = .slice sc dc.length cc := ⟨_, rfl⟩
  obtain ⟨vd, hvd⟩ : ∃ vd : Value, vd = .slice sd dd.length cd := ⟨_, rfl⟩
  have hW1' : W1 = w.alloc (.cells #[.int .i64 xw, .int .i64 xp, .bool na, va, .bool nb, vb, .bool nc, vc, .bool nd, vd] 58) := by rw [hW1, hva, hvb, hvc, hvd]; rfl
  show Calls Try.prog 74 #[.slice s a.length cz, .agg #[.int .i64 xw, .int .i64 xp, .bool na, .slice sa da.length ca, .bool nb, .slice sb db.length cb, .bool nc, .slice sc dc.length cc, .bool nd, .slice sd dd.length cd]] w _
  rw [← hva, ← hvb, ← hvc, ← hvd]
  clear hW1 hvy hva hvb hvc hvd
  have HW1 := Lib.hid hW1'; clear hW1'
  go_enter Try.func74, Try.ntmps74
  go_wp2
  rw [← HW1.out]
  go_loopw [5] (fun v wr => ∃ i : Nat, i ≤ a.length ∧ v = .int .i64 i ∧ (∀ j (h : j < a.length), j < i → f a[j] = false) ∧ Below W1.heap.size W1 wr) (fun v _ => a.length - (vInt v).toNat)
  case atStart => exact ⟨0, Nat.zero_le _, rfl, fun j _ h => by omega, Below.refl _ _⟩
  case round =>
    obtain ⟨i, hi, rfl, ht, hbr⟩ := hrel
    have HT := Lib.hid ht; clear ht
    by_cases h1 : i < a.length
    · have h1' : (i : Int) < a.length := by omega
      obtain ⟨g, o, rfl, _, _, _, hC, hg⟩ := HL.out.at (by omega)
      have cA := Lst.cells hC h1
      have xA := HL.out.at' a[i] (List.getElem_mem h1)
      have hst : f a[i] = false → ∀ j (h : j < a.length), j < i + 1 → f a[j] = false := fun he j h hj => by
        by_cases e : j = i
        · subst e; exact he
        · exact HT.out j h (by omega)
      have hne : f a[i] = true → a.any f = true := fun he => List.any_eq_true.2 ⟨a[i], List.getElem_mem h1, he⟩
      obtain ⟨x, hx⟩ : ∃ x, x = a[i] := ⟨_, rfl⟩
      rw [← hx] at cA xA hst hne
      have hsm := fun U (hU : Below W1.heap.size W1 U) => SM.out x U xA hU
      have hlA : ∀ U, Below W1.heap.size W1 U → (loadVar 58 ⟨g, o + i * 10, none⟩).run Try.prog U = .ok x.v U := fun U hU => run_load_agg (P := Try.prog) (ty := 58) (cA.below hU hg) aggS (infoS' x)
      obtain ⟨vx, hvx⟩ : ∃ vx, vx = x.v := ⟨_, rfl⟩
      obtain ⟨r, hr⟩ : ∃ r, r = f x := ⟨_, rfl⟩
      rw [← hvx] at hlA hsm
      rw [← hr] at hsm hst hne
      clear hvx
      have LA := Lib.hid hlA; clear hlA cA xA hC
      have SM2 := Lib.hid hsm; clear hsm
      have HST := Lib.hid hst; clear hst
      have HNE := Lib.hid hne; clear hne hx hr
      have eX : Below W1.heap.size W1 wr.drew := hbr.drew
      clear hbr
      go_wp2
      haveI : Nonempty (SqC.Come fun U : World => Below W1.heap.size W1 U) := ⟨⟨_, eX⟩⟩
      refine SqC.wp_region_sqc 6 [5] (fun U : World => Below W1.heap.size W1 U) (by kernel_rfl) (by kernel_rfl) (by kernel_rfl) eX ?_
      obtain ⟨wd, hwd⟩ : ∃ wd : World, wd = wr.drew := ⟨_, rfl⟩
      rw [← hwd] at eX ⊢
      clear hwd
      iterate 3 (refine SqC.quiet rfl rfl ?_; go_big_quiet_step (fail); refine wpQuiet_nil ?_)
      refine SqC.value vx rfl rfl (fun U hU => load_agg_exec rfl rfl (LA.out U hU)) ?_
      simp only [Act.put, List.setIfInBounds_toArray, List.set_cons_zero, List.set_cons_succ]
      refine SqC.value vy rfl rfl (fun U hU => load_agg_exec rfl rfl (LB.out U hU)) ?_
      simp only [Act.put, List.setIfInBounds_toArray, List.set_cons_zero, List.set_cons_succ]
      refine SqC.effect rfl rfl ?_
      refine yields_call rfl (by kernel_rfl) rfl rfl ((SM2.out wd eX).mono ?_)
      rintro e w5 ⟨rfl, b5⟩
      have eX5 : Below W1.heap.size W1 w5 := eX.trans (b5.mono eX.size)
      refine ⟨_, rfl, fun _ => eX5, ?_⟩
      simp only [Act.put, List.setIfInBounds_toArray, List.set_cons_zero, List.set_cons_succ]
      refine SqC.nil ?_
      have EX5 := Lib.hid eX5; clear eX5 eX b5
      cases r with
      | false =>
        have HS := Lib.hid (HST.out rfl)
        go_wp2
        go_roundw
        case rel => exact ⟨i + 1, by omega, by go_num, HS.out, EX5.out⟩
        case measure => simp [vInt]; omega
      | true =>
        have HS := Lib.hid (HNE.out rfl)
        go_wp2
        go_ret
        exact ⟨by rw [HS.out]; rfl, HB1.out.trans (EX5.out.mono HB1.out.size)⟩
    · have h1' : ((i : Int) < a.length) = False := eq_false (by omega)
      have he : a.any f = false := by
        rw [List.any_eq_false]
        intro x hx
        obtain ⟨j, hj, rfl⟩ := List.getElem_of_mem hx
        rw [HT.out j hj (by omega)]
        exact Bool.false_ne_true
      have HE := Lib.hid he; clear he
      go_wp2
      go_ret
      exact ⟨by rw [HE.out]; rfl, HB1.out.trans (hbr.mono HB1.out.size)⟩
end Go.Proofs.Ytnkinjilnccmfaa
