/- theory: the reference's Check. -/
import Derived.Test.YtnkglahiagigoaaF8
namespace Go.Theory
open Go.RowKit Go.Own Go.Ib
/-- the numbers below k that may has and s lacks -/
def needs (may s k : Nat) : List Nat := (List.range k).filter fun j => may.testBit j && !s.testBit j
/-- what Check finds for the numbers below k -/
def founds (l : List Int) (may s k : Nat) : List Int := (needs may s k).map fun j => fst l ((s ||| 2 ^ j : Nat) : Int)
def chk (n may : Nat) (l : List Int) (s : Nat) : List Int × Int :=
  if 0 ≤ fst l s then ([], 15) else if (founds l may s n).all (fun x => decide (0 ≤ x)) then (founds l may s n, 0) else ([], 10)
theorem founds_no {l : List Int} {may s k : Nat} (h : (may.testBit k && !s.testBit k) = false) : founds l may s (k + 1) = founds l may s k := by
  unfold founds needs
  rw [List.range_succ, List.filter_append]
  simp [h]
theorem founds_yes {l : List Int} {may s k : Nat} (h : (may.testBit k && !s.testBit k) = true) : founds l may s (k + 1) = founds l may s k ++ [fst l ((s ||| 2 ^ k : Nat) : Int)] := by
  unfold founds needs
  rw [List.range_succ, List.filter_append]
  simp [h]
theorem founds_len (l : List Int) (may s k : Nat) : (founds l may s k).length ≤ k := by
  unfold founds needs
  rw [List.length_map]
  have := List.length_filter_le (fun j => may.testBit j && !s.testBit j) (List.range k)
  rwa [List.length_range] at this
theorem founds_pre (l : List Int) (may s : Nat) : ∀ (d k : Nat), founds l may s k <+: founds l may s (k + d)
  | 0, _ => List.prefix_refl _
  | d + 1, k => by
    refine (founds_pre l may s d k).trans ?_
    rw [← Nat.add_assoc]
    cases h : (may.testBit (k + d) && !s.testBit (k + d)) with
    | false => rw [founds_no h]; exact List.prefix_refl _
    | true => rw [founds_yes h]; exact List.prefix_append _ _
theorem founds_bad {l : List Int} {may s k n : Nat} (hk : k < n) (h : (may.testBit k && !s.testBit k) = true) (hf : fst l ((s ||| 2 ^ k : Nat) : Int) < 0) : (founds l may s n).all (fun x => decide (0 ≤ x)) = false := by
  obtain ⟨t, ht⟩ := founds_pre l may s (n - (k + 1)) (k + 1)
  rw [show k + 1 + (n - (k + 1)) = n by omega, founds_yes h] at ht
  rw [← ht]
  simp; omega
end Go.Theory
namespace Go.Proofs.Ytnkglahiagigoaa
open Go.RowKit Go.Own Go.Theory Go.BigFrame Go.Shelf
theorem infoInt : (Try.prog.info? 3).map (fun i => (i.zero, i.size, i.bytes)) = some (some (.int .i64 0), 1, 8) := by kernel_rfl
theorem hTint : Try.prog.underlying 22 = some (.slice 3) := by kernel_rfl
set_option maxRecDepth 100000 in
theorem rcheck_bad (n may s : Int) (l : List Int) (sa : Option Addr) (cap : Nat) (hn : rg n) (hm : rg may) (hs : rg s) (hv : ¬ (valid n may l ∧ 0 ≤ s ∧ sub s may = true)) (w : World) (hl : Sl w 1 (.slice sa l.length cap) l.length (l.map (.int .i64))) (hll : l.length ≤ 1000000) (hr : ∀ z ∈ l, rg z) :
    Calls Try.prog 27 #[.int .i64 n, .int .i64 may, .slice sa l.length cap, .int .i64 s] w fun e w' => e = .returned (.tuple #[.slice none 0 0, .int .i64 1]) ∧ w' = w := by
  have h := rvalid_any n may l sa cap hn hm w hl hll hr
  by_cases h1 : valid n may l
  · rw [decide_eq_true h1] at h
    unfold rg at hs
    by_cases h2 : s < 0
    · go_enter Try.func27, Try.ntmps27
      go_wp2_with (fail)
      refine h.mono ?_
      rintro e w2 ⟨rfl, rfl⟩
      go_wp2
      go_ret2
      exact ⟨rfl, rfl⟩
    · have h3 : sub s may = false := by
        cases hx : sub s may with
        | false => rfl
        | true => exact absurd ⟨h1, by omega, hx⟩ hv
      have hin := fun W => in_any s may hm W
      simp only [h3] at hin
      have h2' : 0 ≤ s := by omega
      clear h2
      go_enter Try.func27, Try.ntmps27
      go_wp2_with (fail)
      refine h.mono ?_
      rintro e w2 ⟨rfl, rfl⟩
      go_wp2_with (fail)
      refine (hin w2).mono ?_
      rintro e w2 ⟨rfl, rfl⟩
      go_wp2
      go_ret2
      exact ⟨rfl, rfl⟩
  · rw [decide_eq_false h1] at h
    go_enter Try.func27, Try.ntmps27
    go_wp2_with (fail)
    refine h.mono ?_
    rintro e w2 ⟨rfl, rfl⟩
    go_wp2
    go_ret2
    exact ⟨rfl, rfl⟩
set_option maxRecDepth 100000 in
set_option maxHeartbeats 1600000 in
theorem rcheck_any (n may s : Nat) (l : List Int) (sa : Option Addr) (cap : Nat) (hv : valid n may l) (hs : s < 65536) (hsub : sub s may = true) (w : World) (hl : Sl w 1 (.slice sa l.length cap) l.length (l.map (.int .i64))) (hr : ∀ z ∈ l, rg z) :
    Calls Try.prog 27 #[.int .i64 n, .int .i64 may, .slice sa l.length cap, .int .i64 s] w fun e w' => ∃ v, e = .returned (.tuple #[v, .int .i64 (chk n may l s).2]) ∧ w'.ownsRow w.heap.size 3 1 v (chk n may l s).1.length ((chk n may l s).1.map (.int .i64)) ∧ Below w.heap.size w w' := by
  obtain ⟨hn16, hmayM, hll', _⟩ := valid_nat hv
  have hp2 := pow16 hn16
  have hmay : may < 65536 := by omega
  have hll : l.length ≤ 1000000 := by omega
  have h := rvalid_any n may l sa cap (by unfold rg; omega) (rg_nat hmay) w hl hll hr
  rw [decide_eq_true hv] at h
  have hin := fun W => in_any s may (rg_nat hmay) W
  simp only [hsub] at hin
  have hf0 := fst_rg l s hll
  obtain ⟨f0, hf0e⟩ : ∃ f0, f0 = fst l s := ⟨_, rfl⟩
  have hfs := first_any l s sa cap (rg_nat hs) w hl hll
  have hck : chk n may l s = if 0 ≤ f0 then ([], 15) else if (founds l may s n).all (fun x => decide (0 ≤ x)) then (founds l may s n, 0) else ([], 10) := by rw [hf0e]; rfl
  rw [← hf0e] at hf0 hfs
  have HC := Lib.hid hck; clear hck hf0e
  have HM := Lib.hid hmayM; clear hmayM
  go_enter Try.func27, Try.ntmps27
  go_wp2_with (fail)
  refine h.mono ?_
  clear h
  rintro e w2 ⟨rfl, rfl⟩
  go_wp2_with (fail)
  refine (hin w2).mono ?_
  clear hin
  rintro e w3 ⟨rfl, rfl⟩
  go_wp2_with (fail)
  refine hfs.mono ?_
  clear hfs
  rintro e w4 ⟨rfl, rfl⟩
  by_cases h0 : 0 ≤ f0
  · have hck : chk n may l s = ([], 15) := by rw [HC.out, if_pos h0]
    have HC := Lib.hid hck; clear hck
    go_wp2
    go_ret2
    rw [HC.out]
    exact ⟨_, rfl, World.ownsRow_nil _ _ _ _, Below.refl _ _⟩
  · have hck : chk n may l s = if (founds l may s n).all (fun x => decide (0 ≤ x)) then (founds l may s n, 0) else ([], 10) := by rw [HC.out, if_neg h0]
    have h0' : f0 < 0 := by omega
    have HC := Lib.hid hck
    clear hck h0
    go_wp2
    go_loopw [10, 11] (fun v c wr => ∃ (k : Nat) (L : List Int), k ≤ n ∧ c = .int .i64 k ∧ L = founds l may s k ∧ L.all (fun x => decide (0 ≤ x)) = true ∧ wr.ownsRow w4.heap.size 3 1 v L.length (L.map (.int .i64)) ∧ Below w4.heap.size w4 wr) (fun _ c _ => n - (vInt c).toNat)
    case atStart => exact ⟨0, [], by omega, rfl, rfl, rfl, World.ownsRow_nil _ _ _ _, Below.refl _ _⟩
    case round =>
      obtain ⟨k, L, hk, rfl, hL, hall, how, hbr⟩ := hrel
      have hLl : L.length ≤ k := by rw [hL]; exact founds_len _ _ _ _
      by_cases hkn : k < n
      · have hlt : s ||| 2 ^ k < 65536 := Nat.or_lt_two_pow (n := 16) hs (Nat.pow_lt_pow_right (by decide) (show k < 16 by omega))
        have hno := fun h => founds_no (l := l) (may := may) (s := s) (k := k) h
        have hye := fun h => founds_yes (l := l) (may := may) (s := s) (k := k) h
        have hba := fun h => founds_bad (l := l) (may := may) (s := s) hkn h
        have HNO := Lib.hid hno; clear hno
        have HYE := Lib.hid hye; clear hye
        have HBA := Lib.hid hba; clear hba
        have HL := Lib.hid hL; clear hL
        go_wp2_with (fail)
        refine (has_any may k hmay (by omega) wr).mono ?_
        rintro e w5 ⟨rfl, rfl⟩
        cases b1 : may.testBit k with
        | false =>
          have ht := HNO.out (by rw [b1]; rfl)
          have HT := Lib.hid ht; clear ht
          go_wp2
          go_roundw
          case rel => exact ⟨k + 1, L, by omega, by go_num, by rw [HT.out]; exact HL.out, hall, how, hbr⟩
          case measure => simp [vInt]; omega
        | true =>
          go_wp2_with (fail)
          refine (has_any s k hs (by omega) w5).mono ?_
          rintro e w6 ⟨rfl, rfl⟩
          cases b2 : s.testBit k with
          | true =>
            have ht := HNO.out (by rw [b1, b2]; rfl)
            have HT := Lib.hid ht; clear ht
            go_wp2
            go_roundw
            case rel => exact ⟨k + 1, L, by omega, by go_num, by rw [HT.out]; exact HL.out, hall, how, hbr⟩
            case measure => simp [vInt]; omega
          | false =>
            have hcond : (may.testBit k && !s.testBit k) = true := by rw [b1, b2]; rfl
            go_wp2_with (fail)
            refine (with_any s k hs (by omega) w6).mono ?_
            rintro e w7 ⟨rfl, rfl⟩
            have ht := HYE.out hcond
            have hba := HBA.out hcond
            obtain ⟨m, hm2⟩ : ∃ m, m = s ||| 2 ^ k := ⟨_, rfl⟩
            rw [← hm2] at hlt ht hba ⊢
            clear hm2
            have hf2 := fst_rg l m hll
            have hfm := first_any l m sa cap (rg_nat hlt) w7 (hl.below hbr) hll
            obtain ⟨f, hf⟩ : ∃ f, f = fst l m := ⟨_, rfl⟩
            rw [← hf] at ht hba hf2 hfm
            clear hf
            have HT := Lib.hid ht; clear ht
            go_wp2_with (fail)
            refine hfm.mono ?_
            clear hfm
            rintro e w8 ⟨rfl, rfl⟩
            by_cases q : 0 ≤ f
            · clear hba
              have HOW := how.alloc (.cells #[.int .i64 f] 3)
              have hbsz := hbr.size
              go_wp2_with (refine wpList_append_sl rfl _ _ 22 rfl w4.heap.size 3 (.int .i64 0) 1 8 hTint infoInt rfl (by decide) _ L.length _ rfl HOW _ 1 [.int .i64 f] rfl (sl_new _ _ _ 1 rfl (by decide)) (by intro u hu; simp at hu; rw [hu]; rfl) (by unfold maxLen; omega) (by omega) (by simp; omega) ?_)
              intro v' w' h1 h2
              have hb9 : Below w4.heap.size w4 w' := grown_below (hbr.trans ((alloc_below _ _).mono hbsz)) HOW h2 (by simp; omega)
              go_wp2
              go_roundw
              case rel =>
                refine ⟨k + 1, L ++ [f], by omega, by go_num, ?_, ?_, ?_, hb9⟩
                · rw [HT.out, HL.out]
                · rw [List.all_append, hall]; simp; exact q
                · rw [List.length_append, List.map_append]; exact h1
              case measure => simp [vInt]; omega
            · have q' : f < 0 := by omega
              have hck : chk n may l s = ([], 10) := by rw [HC.out, hba q', if_neg (by decide)]
              have HC := Lib.hid hck; clear hck hba q
              go_wp2
              go_ret2
              rw [HC.out]
              exact ⟨_, rfl, World.ownsRow_nil _ _ _ _, hbr⟩
      · obtain rfl : k = n := by omega
        have hck : chk k may l s = (L, 0) := by rw [HC.out, ← hL, hall, if_pos rfl]
        have HC := Lib.hid hck; clear hck
        go_wp2
        go_ret2
        rw [HC.out]
        exact ⟨_, rfl, how, hbr⟩
end Go.Proofs.Ytnkglahiagigoaa
