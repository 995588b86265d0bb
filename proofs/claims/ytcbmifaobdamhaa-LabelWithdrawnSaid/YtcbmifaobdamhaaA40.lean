/- label: the reference's Without. -/
import Derived.Test.YtcbmifaobdamhaaP8
import Derived.Test.YtcbmifaobdamhaaA37
namespace Go.Proofs.Ytcbmifaobdamhaa
open Go.RowKit Go.Own Go.Theory Go.BigFrame Go.Ib Go.Label Go.Shelf
attribute [local irreducible] SqW
theorem and_low {x k : Nat} (hx : x < 65536) (hk : k < 16) : bits .and .i64 (x : Int) (((2 ^ k : Nat) : Int) - 1) = ((x % 2 ^ k : Nat) : Int) := by
  have h1 := pow16 (n := k) (by omega)
  have h2 := two_pos k
  rw [show (((2 ^ k : Nat) : Int) - 1) = ((2 ^ k - 1 : Nat) : Int) by omega, Ib.b_and _ _ (by omega) (by omega), Nat.and_two_pow_sub_one_eq_mod]
theorem wrapI {x : Int} (h : rg x) : IntKind.i64.wrap x = x := by
  rw [IntKind.wrap_i64]
  unfold rg at h
  omega
theorem wrap_powI {k : Nat} (hk : k < 16) : IntKind.i64.wrap ((2 : Int) ^ k) = ((2 ^ k : Nat) : Int) := by
  have h1 := pow16 (n := k) (by omega)
  rw [show ((2 : Int) ^ k) = ((2 ^ k : Nat) : Int) by simp]
  generalize (2 : Nat) ^ k = m at h1 ⊢
  exact wrapI (by unfold rg; omega)
theorem wo_val {x k : Nat} (hx : x < 65536) (hk : k < 16) : wrap64 ((x : Int) % ((2 ^ k : Nat) : Int) + wrap64 ((x : Int) / 2 ^ (k + 1) * 2 ^ k)) = ((woK k x : Nat) : Int) := by
  have hwo : woK k x = 2 ^ k * (x / (2 ^ k * 2)) + x % 2 ^ k := by unfold woK; rw [Nat.div_div_eq_div_mul]
  rw [hwo, show ((2 : Int) ^ (k + 1)) = ((2 ^ k * 2 : Nat) : Int) by rw [Int.pow_succ]; simp, show ((2 : Int) ^ k) = ((2 ^ k : Nat) : Int) by simp]
  have h0 := two_pos k
  generalize (2 : Nat) ^ k = M at h0 ⊢
  rw [← Int.natCast_ediv, ← Int.natCast_mul, ← Int.natCast_emod]
  have h1 := Nat.div_mul_le_self x (M * 2)
  have h2 := Nat.mod_lt x h0
  have h3 := Nat.mod_le x M
  rw [← Nat.mul_assoc] at h1
  rw [Nat.mul_comm M (x / (M * 2))]
  generalize x / (M * 2) * M = q at h1 ⊢
  generalize x % M = r at h2 h3 ⊢
  rw [Go.IntWalk.wrap64_in (q : Int) (by omega), Go.IntWalk.wrap64_in _ (by omega)]
  omega
set_option maxRecDepth 100000 in
theorem without_any (l : List Nat) (k : Nat) (sa : Option Addr) (cap : Nat) (w : World) (hl : Sl w 1 (.slice sa l.length cap) l.length (ints l)) (hll : l.length ≤ 2304) (hr : ∀ t ∈ l, t < 65536) (hk : k < 16) :
    Calls Try.prog 33 #[.slice sa l.length cap, .int .i64 k] w fun e w' => ∃ so co, e = .returned (.slice so (withoutK k l).length co) ∧ Sl w' 1 (.slice so (withoutK k l).length co) (withoutK k l).length (ints (withoutK k l)) ∧ Below w.heap.size w w' := by
  have HR := Lib.hid hr; clear hr
  go_enter Try.func33, Try.ntmps33
  go_wp2
  go_loopw [5, 6] (fun v5 c wr => ∃ i : Nat, i ≤ l.length ∧ c = .int .i64 i ∧ wr.ownsRow w.heap.size 26 1 v5 (withoutK k (l.take i)).length (ints (withoutK k (l.take i))) ∧ Below w.heap.size w wr) (fun _ c _ => l.length - (vInt c).toNat)
  case atStart => exact ⟨0, by omega, rfl, by simpa [withoutK, ints] using World.ownsRow_nil _ _ _ _, Below.refl _ _⟩
  case round =>
    obtain ⟨i, hi, rfl, ho, hbr⟩ := hrel
    obtain ⟨sv, cv, rfl, _⟩ := own_slice ho
    by_cases hil : i < l.length
    · have hil' : (i : Int) < l.length := by omega
      obtain ⟨ba, oa, rfl, _, _, hCa, hal⟩ := sl_at hl (by omega)
      obtain ⟨x, hx⟩ : ∃ x, x = l[i] := ⟨_, rfl⟩
      have cx : wr.cell? ⟨ba, oa + i, none⟩ = some (.int .i64 (x : Nat)) := (hCa.below hbr hal) i _ (by rw [ints_at hil, hx])
      have hx6 : x < 65536 := by rw [hx]; exact HR.out _ (List.getElem_mem hil)
      have hin := has_any x k (by omega) (by omega)
      have htk : l.take (i + 1) = l.take i ++ [x] := by rw [List.take_succ_eq_append_getElem hil, hx]
      have hwl : (withoutK k (l.take i)).length ≤ 2304 := by
        unfold withoutK
        rw [List.length_map]
        have := List.length_filter_le (noK k) (l.take i)
        rw [List.length_take] at this
        omega
      obtain ⟨T, hT⟩ : ∃ T, T = withoutK k (l.take i) := ⟨_, rfl⟩
      rw [← hT] at ho hwl ⊢
      cases hp : x.testBit k with
      | true =>
        have e : withoutK k (l.take (i + 1)) = T := by
          rw [htk, hT]; unfold withoutK; rw [List.filter_append]; simp [noK, hp]
        have EE := Lib.hid e
        rw [hp] at hin
        have HI := Lib.hid hin
        have HO := Lib.hid ho
        clear e hin hp hT htk hx ho hCa
        go_wp2_with (fail)
        refine (HI.out _).mono ?_
        rintro e w2 ⟨rfl, rfl⟩
        go_wp2
        go_roundw
        case rel => exact ⟨i + 1, by omega, by go_num, by rw [EE.out]; exact HO.out, hbr⟩
        case measure => simp [vInt]; omega
      | false =>
        have e : withoutK k (l.take (i + 1)) = T ++ [woK k x] := by
          rw [htk, hT]; unfold withoutK; rw [List.filter_append, List.map_append]; simp [noK, hp]
        have EE := Lib.hid e
        rw [hp] at hin
        have HI := Lib.hid hin
        have HO := Lib.hid ho
        have hwp := wrap_powI hk
        have hand := and_low hx6 hk
        have hval := wo_val hx6 hk
        have h16 := pow16 (n := k) (by omega)
        have h0 := two_pos k
        have hwo : woK k x = 2 ^ k * (x / (2 ^ k * 2)) + x % 2 ^ k := by unfold woK; rw [Nat.div_div_eq_div_mul]
        obtain ⟨M, hM⟩ : ∃ M, M = 2 ^ k := ⟨_, rfl⟩
        rw [← hM] at hwp hand h16 h0 hwo hval
        obtain ⟨y, hy⟩ : ∃ y, y = woK k x := ⟨_, rfl⟩
        rw [← hy] at hval EE
        have HVAL := Lib.hid hval
        clear hval hy
        have HWO := Lib.hid hwo
        have HMM := Lib.hid hM
        clear e hin hp hT htk hx ho hCa hwo hM
        go_wp2_with (fail)
        refine (HI.out _).mono ?_
        rintro e w2 ⟨rfl, rfl⟩
        go_wp2
        have HWP := Lib.hid hwp; clear hwp
        have HAND := Lib.hid hand; clear hand
        have H16 := Lib.hid h16; clear h16
        have H0 := Lib.hid h0; clear h0
        have HCX := Lib.hid (show ∀ U, Below w2.heap.size w2 U → U.cell? ⟨ba, oa + i, none⟩ = some (.int .i64 (x : Nat)) from fun U hU => (hU.cell (p := ⟨ba, oa + i, none⟩) (Nat.lt_of_lt_of_le hal hbr.size)).trans cx)
        refine wp_region_sqA 9 [3, 5, 6, 7] (fun i v W => match i with
          | 3 => v = .int .i64 (x : Nat)
          | 5 => v = .int .i64 (M : Nat)
          | 6 => v = .int .i64 ((M : Int) - 1)
          | 7 => v = .int .i64 ((x % M : Nat) : Int)
          | _ => True) (by kernel_rfl) (by kernel_rfl) (by kernel_rfl) ?stable ?main
        case stable =>
          intro i v W W' h hb
          match i, h with
          | 0, h => exact h
          | 1, h => exact h
          | 2, h => exact h
          | 3, h => exact h
          | 4, h => exact h
          | 5, h => exact h
          | 6, h => exact h
          | 7, h => exact h
          | _ + 8, _ => exact trivial
        iterate 3 (refine sqw_quiet rfl rfl (ExtB.refl _) ?_; go_big_quiet_step (fail); refine wpQuiet_nil ?_)
        refine sqw_postY rfl rfl rfl ?_ ?_
        · intro U hb hf
          have cx := HCX.out U (ExtB.undrew hb)
          refine yields_value (v := .int .i64 (x : Nat)) (w' := U) ?_ ⟨rfl, ExtB.refl _⟩
          go_simp
        intro v Wj hv
        obtain rfl : v = .int .i64 (x : Nat) := hv
        simp only [Act.put, List.setIfInBounds_toArray, List.set_cons_zero, List.set_cons_succ]
        iterate 1 (refine sqw_quiet rfl rfl (ExtB.refl _) ?_; go_big_quiet_step (fail); refine wpQuiet_nil ?_)
        refine sqw_postY rfl rfl rfl ?_ ?_
        · intro U hb hf
          have h := HWP.out
          refine yields_value (v := .int .i64 (M : Nat)) (w' := U) ?_ ⟨rfl, ExtB.refl _⟩
          go_simp
        intro v Wj hv
        obtain rfl : v = .int .i64 (M : Nat) := hv
        simp only [Act.put, List.setIfInBounds_toArray, List.set_cons_zero, List.set_cons_succ]
        refine sqw_postY rfl rfl rfl ?_ ?_
        · intro U hb hf
          have h := wrapI (x := (M : Int) - 1) (by have := H16.out; have := H0.out; unfold rg; omega)
          refine yields_value (v := .int .i64 ((M : Int) - 1)) (w' := U) ?_ ⟨rfl, ExtB.refl _⟩
          go_simp
        intro v Wj hv
        obtain rfl : v = .int .i64 ((M : Int) - 1) := hv
        simp only [Act.put, List.setIfInBounds_toArray, List.set_cons_zero, List.set_cons_succ]
        refine sqw_postY rfl rfl rfl ?_ ?_
        · intro U hb hf
          have h := HAND.out
          refine yields_value (v := .int .i64 ((x % M : Nat) : Int)) (w' := U) ?_ ⟨rfl, ExtB.refl _⟩
          go_simp
        intro v Wj hv
        obtain rfl : v = .int .i64 ((x % M : Nat) : Int) := hv
        simp only [Act.put, List.setIfInBounds_toArray, List.set_cons_zero, List.set_cons_succ]
        iterate 1 (refine sqw_quiet rfl rfl (ExtB.refl _) ?_; go_big_quiet_step (fail); refine wpQuiet_nil ?_)
        refine sqw_nil ?_
        intro w3 hb3 _
        have hb3' : Below w2.heap.size w2 w3 := ExtB.undrew hb3
        have cx3 := HCX.out w3 hb3'
        have HO3 := Lib.hid (own_below HO.out hb3')
        have HB3 := Lib.hid (hbr.trans (hb3'.mono hbr.size))
        clear hb3 hb3' HO cx hbr
        have hval := HVAL.out
        have HOA := HO3.out.alloc (.cells #[.int .i64 (y : Nat)] 26)
        have hsz := HB3.out.size
        go_wp2_with (refine wpList_append_sl rfl _ _ 37 rfl w.heap.size 26 (.int .i64 0) 1 8 hTset infoSet rfl (by decide) _ T.length _ rfl HOA _ 1 [.int .i64 (y : Nat)] rfl (sl_new _ _ _ 1 rfl (by decide)) (by intro u hu; simp at hu; rw [hu]; rfl) (by unfold maxLen; omega) (by omega) (by simp; omega) ?_)
        intro v' w8 g1 g2
        have hb8 : Below w.heap.size w w8 := grown_below (HB3.out.alloc hsz (.cells #[.int .i64 (y : Nat)] 26)) HOA g2 (by simp; omega)
        have HB8 := Lib.hid hb8
        have HG1 := Lib.hid g1
        clear hb8 g1 g2 HOA hval
        go_wp2
        go_roundw
        case rel => exact ⟨i + 1, by omega, by go_num, by rw [EE.out, List.length_append]; simpa [ints] using HG1.out, HB8.out⟩
        case measure => simp [vInt]; omega
    · have hil' : ((i : Int) < l.length) = False := eq_false (by omega)
      rw [List.take_of_length_le (by omega)] at ho ⊢
      have HO := Lib.hid ho; clear ho
      go_wp2
      go_ret
      exact ⟨sv, cv, rfl, Sl.of_owns HO.out, hbr⟩
end Go.Proofs.Ytcbmifaobdamhaa
