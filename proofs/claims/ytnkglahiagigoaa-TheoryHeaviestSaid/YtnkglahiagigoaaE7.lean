/- theory: the reference's All. -/
import Derived.Test.YtnkglahiagigoaaE6
import Derived.Test.YtnkglahiagigoaaOw
namespace Go.Theory
open Go.Own Go.RowKit
def vInt : Value → Int | .int _ q => q | _ => 0
/-- all theories below a number, in order -/
def theoriesTo (n may : Nat) (l : List Int) (k : Nat) : List Nat := (List.range k).filter fun s => decide (theory n may l s)
def theories (n may : Nat) (l : List Int) : List Nat := theoriesTo n may l (2 ^ n)
theorem theoriesTo_succ (n may : Nat) (l : List Int) (k : Nat) : theoriesTo n may l (k + 1) = theoriesTo n may l k ++ (if decide (theory n may l k) = true then [k] else []) := by
  unfold theoriesTo
  rw [List.range_succ, List.filter_append]
  congr 1
  by_cases h : theory n may l k <;> simp [h]
theorem theoriesTo_len (n may : Nat) (l : List Int) (k : Nat) : (theoriesTo n may l k).length ≤ k := by
  unfold theoriesTo
  have := List.length_filter_le (fun s => decide (theory n may l s)) (List.range k)
  rwa [List.length_range] at this
end Go.Theory
namespace Go.Proofs.Ytnkglahiagigoaa
open Go.RowKit Go.Own Go.Theory Go.BigFrame
theorem infoSet : (Try.prog.info? 23).map (fun i => (i.zero, i.size, i.bytes)) = some (some (.int .i64 0), 1, 8) := by kernel_rfl
theorem hTset : Try.prog.underlying 24 = some (.slice 23) := by kernel_rfl
set_option maxHeartbeats 1600000 in
theorem rall_any (n may : Nat) (l : List Int) (sa : Option Addr) (cap : Nat) (hv : valid n may l) (w : World) (hl : Sl w 1 (.slice sa l.length cap) l.length (l.map (.int .i64))) (hr : ∀ z ∈ l, rg z) :
    Calls Try.prog 14 #[.int .i64 n, .int .i64 may, .slice sa l.length cap] w fun e w' => ∃ v, e = .returned (.tuple #[v, .int .i64 0]) ∧ w'.ownsRow w.heap.size 23 1 v (theories n may l).length ((theories n may l).map fun (j : Nat) => .int .i64 j) ∧ Below w.heap.size w w' := by
  have hn16 : n ≤ 16 := by have := hv.2.1; omega
  have hp := wrap_pow hn16
  have hp2 := pow16 hn16
  have hmay : may < 65536 := by
    have h := hv.2.2.2.2.1
    rw [show ((2 : Int) ^ (n : Int).toNat) = ((2 ^ n : Nat) : Int) by simp] at h
    omega
  have hll : l.length ≤ 1000000 := by have := hv.2.2.1; omega
  have hth : theories n may l = theoriesTo n may l (2 ^ n) := rfl
  have hvd : decide (valid n may l) = true := decide_eq_true hv
  have hva : ∀ W, Sl W 1 (.slice sa l.length cap) l.length (l.map (.int .i64)) → Calls Try.prog 37 #[.int .i64 n, .int .i64 may, .slice sa l.length cap] W fun e w' => e = .returned (.bool true) ∧ w' = W := fun W h => by
    have := rvalid_any n may l sa cap (by unfold rg; omega) (rg_nat hmay) W h hll hr
    rwa [hvd] at this
  obtain ⟨M, hM⟩ : ∃ M, M = 2 ^ n := ⟨_, rfl⟩
  rw [← hM] at hp hp2 hth
  have HTH := Lib.hid hth; clear hth
  clear hM hvd hv
  go_enter Try.func14, Try.ntmps14
  go_wp2_with (fail)
  refine (hva w hl).mono ?_
  rintro e w2 ⟨rfl, rfl⟩
  clear hva
  go_wp2
  go_loopw [8, 9] (fun v c wr => ∃ (k : Nat) (L : List Nat), k ≤ M ∧ c = .int .i64 k ∧ L = theoriesTo n may l k ∧ wr.ownsRow w2.heap.size 23 1 v L.length (L.map fun (j : Nat) => .int .i64 j) ∧ Below w2.heap.size w2 wr) (fun _ c _ => M - (vInt c).toNat)
  case atStart => exact ⟨0, [], by omega, rfl, rfl, World.ownsRow_nil _ _ _ _, Below.refl _ _⟩
  case round =>
    obtain ⟨k, L, hk, rfl, hL, how, hbr⟩ := hrel
    have hLl : L.length ≤ k := by rw [hL]; exact theoriesTo_len _ _ _ _
    by_cases hkl : k < M
    · have hs := theoriesTo_succ n may l k
      rw [← hL] at hs
      have ht := rtheory_any n may k l sa cap hn16 hmay (by omega) wr (hl.below hbr) hll
      obtain ⟨b, hb⟩ : ∃ b, b = decide (theory n may l k) := ⟨_, rfl⟩
      rw [← hb] at hs ht
      clear hb
      have HS := Lib.hid hs; clear hs
      have HL := Lib.hid hL; clear hL
      go_wp2_with (fail)
      refine ht.mono ?_
      rintro e w3 ⟨rfl, rfl⟩
      clear ht
      cases b with
      | true =>
        have hbsz := hbr.size
        have HOW := how.alloc (.cells #[.int .i64 k] 23)
        go_wp2_with (refine wpList_append_sl rfl _ _ 24 rfl w2.heap.size 23 (.int .i64 0) 1 8 hTset infoSet rfl (by decide) _ L.length _ rfl HOW _ 1 [.int .i64 k] rfl (sl_new _ _ _ 1 rfl (by decide)) (by intro u hu; simp at hu; rw [hu]; rfl) (by unfold maxLen; omega) (by omega) (by simp; omega) ?_)
        intro v' w' h1 h2
        have hb9 : Below w2.heap.size w2 w' := grown_below (hbr.trans (((Below.refl w3.heap.size w3).alloc (Nat.le_refl _) _).mono hbsz)) HOW h2 (by simp; omega)
        go_wp2
        go_roundw
        case rel =>
          refine ⟨k + 1, L ++ [k], by omega, by go_num, ?_, ?_, hb9⟩
          · rw [HS.out]; rfl
          · rw [List.length_append, List.map_append]; exact h1
        case measure => simp [vInt]; omega
      | false =>
        go_wp2
        go_roundw
        case rel =>
          refine ⟨k + 1, L, by omega, by go_num, ?_, how, hbr⟩
          rw [HS.out]; simp
        case measure => simp [vInt]; omega
    · obtain rfl : k = M := by omega
      have HE : Hid (L = theories n may l) := Lib.hid (by rw [hL, HTH.out])
      clear hL
      go_wp2
      go_ret2
      rw [HE.out] at how
      exact ⟨_, rfl, how, hbr⟩
end Go.Proofs.Ytnkglahiagigoaa
