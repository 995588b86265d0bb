/- theory: Some and bent. -/
import Derived.Test.YtnkglahiagigoaaF16
namespace Go.Proofs.Ytnkglahiagigoaa
open Go.RowKit Go.Own Go.Theory Go.BigFrame Go.Shelf
set_option maxRecDepth 100000 in
theorem some_any (l : List Int) (n : Nat) (sa : Option Addr) (cap : Nat) (hn : n ≤ 17) (hr : ∀ z ∈ l, rg z) (w : World) (hl : Sl w 1 (.slice sa l.length cap) l.length (l.map (.int .i64))) (hm : l.length ≤ maxLen) :
    Calls Try.prog 19 #[.slice sa l.length cap, .int .i64 n] w fun e w' => ∃ (wl : List Int) (v : Value), e = .returned v ∧ wts n wl ∧ w'.ownsRow w.heap.size 3 1 v wl.length (wl.map (.int .i64)) ∧ Below w.heap.size w w' := by
  go_enter Try.func19, Try.ntmps19
  go_wp2
  go_loopw [5, 6] (fun v c wr => ∃ (i : Nat) (L : List Int), i ≤ n ∧ c = .int .i64 i ∧ L.length = i ∧ (∀ z ∈ L, 0 ≤ z ∧ z ≤ 16384) ∧ wr.ownsRow w.heap.size 3 1 v L.length (L.map (.int .i64)) ∧ Below w.heap.size w wr) (fun _ c _ => n - (vInt c).toNat)
  case atStart => exact ⟨0, [], by omega, rfl, rfl, fun z h => absurd h (by simp), World.ownsRow_nil _ _ _ _, Below.refl _ _⟩
  case round =>
    obtain ⟨i, L, hi, rfl, hLl, hLg, how, hbr⟩ := hrel
    have HL := Lib.hid hLl; clear hLl
    by_cases h1 : i < n
    · have h1' : (i : Int) < n := by omega
      obtain ⟨x, hx, hx2⟩ := at3_rg l i (n := 12) (by omega)
      have d := at_any l i 12 sa cap (by unfold rg; omega) (by omega) hr wr (hl.below hbr) hm
      rw [show at3 l i 12 = (x : Int) from hx] at d
      clear hx
      have hbsz := hbr.size
      go_wp2_with (fail)
      refine d.mono ?_
      clear d
      rintro e w2 ⟨rfl, rfl⟩
      have HOW := how.alloc (.cells #[.int .i64 x] 3)
      go_wp2_with (refine wpList_append_sl rfl _ _ 22 rfl w.heap.size 3 (.int .i64 0) 1 8 hTint infoInt rfl (by decide) _ L.length _ rfl HOW _ 1 [.int .i64 x] rfl (sl_new _ _ _ 1 rfl (by decide)) (by intro u hu; simp at hu; rw [hu]; rfl) (by have := HL.out; unfold maxLen; omega) (by have := HL.out; omega) (by simp; omega) ?_)
      intro v' w' h8 h9
      have hb9 : Below w.heap.size w w' := grown_below (hbr.trans ((alloc_below _ _).mono hbsz)) HOW h9 (by simp; omega)
      go_wp2
      go_roundw
      case rel =>
        refine ⟨i + 1, L ++ [(x : Int)], by omega, by go_num, by have := HL.out; simp; omega, ?_, ?_, hb9⟩
        · intro z hz
          rcases List.mem_append.1 hz with hz | hz
          · exact hLg z hz
          · simp at hz; subst hz; omega
        · rw [List.length_append, List.map_append]; exact h8
      case measure => simp [vInt]; omega
    · have h1' : (n : Int) ≤ i := by omega
      have hin : i = n := by omega
      have HI := Lib.hid hin; clear hin
      go_wp2
      go_ret
      exact ⟨L, _, rfl, ⟨by have := HL.out; have := HI.out; omega, hLg⟩, how, hbr⟩
set_option maxRecDepth 100000 in
theorem some_neg (n : Int) (sa : Option Addr) (len cap : Nat) (hn : n < 0) (w : World) : Calls Try.prog 19 #[.slice sa len cap, .int .i64 n] w fun e w' => e = .returned (.slice none 0 0) ∧ w' = w := by
  go_enter Try.func19, Try.ntmps19
  have h1 : n ≤ 0 := by omega
  go_wp2
  go_loopw [5, 6] (fun v c wr => v = .slice none 0 0 ∧ c = .int .i64 0 ∧ wr = w) (fun _ _ _ => 0)
  case atStart => exact ⟨rfl, rfl, rfl⟩
  case round =>
    obtain ⟨rfl, rfl, rfl⟩ := hrel
    go_wp2
    go_ret
    exact ⟨rfl, rfl⟩
theorem mk_sets (n : Nat) (hn : n ≤ 1000000) (u : World) : (Instr.makeSlice 24 (.int .i64 n) (.int .i64 n)).run Try.prog u = .ok (.slice (some ⟨u.heap.size, 0, none⟩) n n) (u.alloc (.cells (Array.replicate n (.int .i64 0)) 23)) :=
  run_make_one (.int .i64 0) 8 (by kernel_rfl) (by kernel_rfl) rfl n (by omega) (by unfold maxLen; omega) u
theorem ints_one (l : List Int) : ∀ u ∈ l.map (Value.int .i64), u.oneCell' = true := by
  intro u hu
  obtain ⟨z, _, rfl⟩ := List.mem_map.1 hu
  rfl
set_option maxRecDepth 100000 in
set_option maxHeartbeats 1600000 in
theorem bent_any (n may : Nat) (l : List Int) (how byv : Int) (sa : Option Addr) (cap : Nat) (hv : valid n may l) (hn8 : n ≤ 8) (hl10 : l.length ≤ 10) (hho : rg how) (hby : rg byv) (w : World) (hl : Sl w 1 (.slice sa l.length cap) l.length (l.map (.int .i64))) :
    Calls Try.prog 12 #[.int .i64 n, .int .i64 may, .slice sa l.length cap, .int .i64 how, .int .i64 byv] w fun e w' => ∃ (m o : Int) (d : List Int) (v : Value), e = .returned (.tuple #[.int .i64 m, .int .i64 o, v]) ∧ (-1 ≤ m ∧ m ≤ 17) ∧ rg o ∧ (∀ z ∈ d, rg z) ∧ d.length ≤ 1025 ∧ (valid m o d → d.length ≤ 11) ∧
      w'.ownsRow w.heap.size 23 1 v d.length (d.map (.int .i64)) ∧ Below w.heap.size w w' := by
  obtain ⟨hn16, hmayM, _, hv2⟩ := valid_nat hv
  have hp2 : 2 ^ n ≤ 256 := Nat.pow_le_pow_right (n := 2) (by omega) hn8
  have hrl : ∀ z ∈ l, rg z := fun z hz => by have := hv2 z hz; unfold rg; omega
  have hp := wrap_pow hn16
  obtain ⟨k, hk, hk7⟩ := around_rg how (n := 7) (by omega)
  have ha := fun W => around_any how 7 hho (by omega) W
  simp only [show around how 7 = (k : Int) from hk] at ha
  clear hk
  obtain ⟨M, hM⟩ : ∃ M, M = 2 ^ n := ⟨_, rfl⟩
  rw [← hM] at hp hp2 hmayM
  clear hM hv hv2
  have hor : bits .or .i64 (may : Int) (M : Int) = ((may ||| M : Nat) : Int) := Go.Ib.b_or may M (by omega) (by omega)
  have horl : may ||| M < 512 := Nat.or_lt_two_pow (n := 9) (by omega) (by omega)
  obtain ⟨q, hq⟩ : ∃ q, q = may ||| M := ⟨_, rfl⟩
  rw [← hq] at hor horl
  clear hq
  have hS : Sl (w.alloc (.cells #[] 23)) 1 (.slice sa l.length cap) l.length (l.map (.int .i64)) := hl.alloc _
  have hO := World.ownsRow_made (e := 23) (size := 1) w #[] 0 (Nat.le_refl _) (by decide) (by simp)
  go_enter Try.func12, Try.ntmps12
  go_wp2_with (refine wpList_append_sl rfl _ _ 24 rfl w.heap.size 23 (.int .i64 0) 1 8 hTset infoSet rfl (by decide) _ 0 [] rfl hO _ l.length (l.map (.int .i64)) rfl hS (ints_one l) (by rw [Nat.zero_add]; unfold maxLen; omega) (by omega) (by simp) ?_)
  intro v' w' h1 h2
  have hb : Below w.heap.size w w' := grown_below (alloc_below w (.cells #[] 23)) hO h2 (by simp)
  have hsz := hb.size
  clear hS hO h2
  go_wp2_with (fail)
  refine (ha w').mono ?_
  clear ha
  rintro e w2 ⟨rfl, rfl⟩
  have hkk : k = 0 ∨ k = 1 ∨ k = 2 ∨ k = 3 ∨ k = 4 ∨ k = 5 ∨ k = 6 := by omega
  have rgn : -1 ≤ (n : Int) ∧ (n : Int) ≤ 17 := by omega
  have rgm : rg (may : Int) := by unfold rg; omega
  rcases hkk with rfl | rfl | rfl | rfl | rfl | rfl | rfl
  · go_wp2
    go_ret3
    exact ⟨_, _, l, _, rfl, by omega, rgm, hrl, by omega, fun _ => by omega, h1, hb⟩
  · go_wp2
    go_ret3
    exact ⟨_, _, l, _, rfl, by omega, rgm, hrl, by omega, fun _ => by omega, h1, hb⟩
  · go_wp2
    go_ret3
    exact ⟨_, _, l, _, rfl, rgn, by unfold rg; omega, hrl, by omega, fun _ => by omega, h1, hb⟩
  · go_wp2
    go_ret3
    exact ⟨_, _, l, _, rfl, rgn, by unfold rg; omega, hrl, by omega, fun _ => by omega, h1, hb⟩
  · have HOW := h1.alloc (.cells #[.int .i64 0] 23)
    go_wp2_with (refine wpList_append_sl rfl _ _ 24 rfl w.heap.size 23 (.int .i64 0) 1 8 hTset infoSet rfl (by decide) _ l.length _ rfl HOW _ 1 [.int .i64 0] rfl (sl_new _ _ _ 1 rfl (by decide)) (by intro u hu; simp at hu; rw [hu]; rfl) (by unfold maxLen; omega) (by omega) (by simp; omega) ?_)
    intro v3 w3 h8 h9
    have hb9 : Below w.heap.size w w3 := grown_below (hb.trans ((alloc_below _ _).mono hsz)) HOW h9 (by simp; omega)
    go_wp2
    go_ret3
    refine ⟨_, _, l ++ [0], _, rfl, rgn, rgm, ?_, by simp; omega, fun _ => by simp; omega, by rw [List.length_append, List.map_append]; exact h8, hb9⟩
    intro z hz
    rcases List.mem_append.1 hz with hz | hz
    · exact hrl z hz
    · simp at hz; subst hz; unfold rg; omega
  · have HOW := h1.alloc (.cells #[.int .i64 byv] 23)
    go_wp2_with (refine wpList_append_sl rfl _ _ 24 rfl w.heap.size 23 (.int .i64 0) 1 8 hTset infoSet rfl (by decide) _ l.length _ rfl HOW _ 1 [.int .i64 byv] rfl (sl_new _ _ _ 1 rfl (by decide)) (by intro u hu; simp at hu; rw [hu]; rfl) (by unfold maxLen; omega) (by omega) (by simp; omega) ?_)
    intro v3 w3 h8 h9
    have hb9 : Below w.heap.size w w3 := grown_below (hb.trans ((alloc_below _ _).mono hsz)) HOW h9 (by simp; omega)
    go_wp2
    go_ret3
    refine ⟨_, _, l ++ [byv], _, rfl, rgn, rgm, ?_, by simp; omega, fun _ => by simp; omega, by rw [List.length_append, List.map_append]; exact h8, hb9⟩
    intro z hz
    rcases List.mem_append.1 hz with hz | hz
    · exact hrl z hz
    · simp at hz; subst hz; exact hby
  · obtain ⟨Z, hZ⟩ : ∃ Z : Array Value, Z = Array.replicate 1025 (.int .i64 0) := ⟨_, rfl⟩
    have hmk : ∀ u : World, (Instr.makeSlice 24 (.int .i64 1025) (.int .i64 1025)).run Try.prog u = .ok (.slice (some ⟨u.heap.size, 0, none⟩) 1025 1025) (u.alloc (.cells Z 23)) := fun u => by rw [hZ]; exact mk_sets 1025 (by omega) u
    go_wp2
    go_region
    go_wp2
    go_ret3
    refine ⟨_, _, List.replicate 1025 0, _, rfl, rgn, rgm, ?_, by simp, ?_, ?_, hb.trans ((alloc_below _ _).mono hsz).drew⟩
    · intro z hz
      rw [List.eq_of_mem_replicate hz]; unfold rg; omega
    · intro hvv
      have := (valid_nat hvv).2.2.1
      simp at this
    · have hO : (w2.alloc (.cells (Array.replicate 1025 (.int .i64 0)) 23)).ownsRow w.heap.size 23 1 (.slice (some ⟨w2.heap.size, 0, none⟩) 1025 1025) 1025 ((List.replicate 1025 0).map (.int .i64)) :=
        ⟨by simp, .inr ⟨w2.heap.size, 1025, Array.replicate 1025 (.int .i64 0), rfl, hsz, heap_alloc_new w2 _, Nat.le_refl _, by decide, by simp, by simp⟩⟩
      simpa using hO.drew
end Go.Proofs.Ytnkglahiagigoaa
