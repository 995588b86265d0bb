/- label: the iterator over all sets, those with fewer elements first. -/
import Derived.RangeFuncNested
import Derived.RangeFuncBound
import Derived.RangeFuncCalls
import Derived.RangeFuncLeaves
import Derived.Shelf.Abstract
import Derived.WalkKit
import Derived.OwnWalkIn
import Derived.TacticsInMore
import Derived.LoopNIn
import Derived.LoopIn
import Derived.Test.YtcbmifaobdamhaaA15
import Derived.Test.YtcbmifaobdamhaaRf
namespace Go.Label
open Go.RowKit Go.Theory
/-- a set of the first n -/
abbrev St (n : Nat) := { s : Nat // s < 2 ^ n }
/-- the sets below k with c elements, in order -/
def lay (n c k : Nat) : List (St n) := (List.range k).filterMap fun s => if h : s < 2 ^ n ∧ pop s = c then some ⟨s, h.1⟩ else none
/-- the sets with fewer than c elements, in order -/
def ords (n c : Nat) : List (St n) := (List.range c).flatMap fun d => lay n d (2 ^ n)
theorem lay_yes {n c k : Nat} (hk : k < 2 ^ n) (h : pop k = c) : lay n c (k + 1) = lay n c k ++ [⟨k, hk⟩] := by
  unfold lay
  rw [List.range_succ, List.filterMap_append]
  simp [hk, h]
theorem lay_no {n c k : Nat} (h : ¬ pop k = c) : lay n c (k + 1) = lay n c k := by
  unfold lay
  rw [List.range_succ, List.filterMap_append]
  simp [h]
theorem lay_len (n c k : Nat) : (lay n c k).length ≤ k := by
  unfold lay
  have := List.length_filterMap_le (fun s => if h : s < 2 ^ n ∧ pop s = c then some (⟨s, h.1⟩ : St n) else none) (List.range k)
  rwa [List.length_range] at this
theorem ords_succ (n c : Nat) : ords n (c + 1) = ords n c ++ lay n c (2 ^ n) := by
  unfold ords
  rw [List.range_succ, List.flatMap_append]
  simp
theorem ords_len (n : Nat) : ∀ c, (ords n c).length ≤ c * 2 ^ n
  | 0 => by simp [ords]
  | c + 1 => by
    rw [ords_succ, List.length_append, Nat.succ_mul]
    have := ords_len n c
    have := lay_len n c (2 ^ n)
    omega
theorem lay_pre (n c : Nat) : ∀ (j k : Nat), lay n c k <+: lay n c (k + j)
  | 0, k => List.prefix_refl _
  | j + 1, k => by
    refine (lay_pre n c j k).trans ?_
    rw [← Nat.add_assoc]
    unfold lay
    rw [List.range_succ, List.filterMap_append]
    exact List.prefix_append _ _
theorem lay_preM {n c k : Nat} (h : k ≤ 2 ^ n) : lay n c k <+: lay n c (2 ^ n) := by
  have := lay_pre n c (2 ^ n - k) k
  rwa [show k + (2 ^ n - k) = 2 ^ n by omega] at this
theorem ords_pre (n : Nat) : ∀ (j c : Nat), ords n c <+: ords n (c + j)
  | 0, c => List.prefix_refl _
  | j + 1, c => by
    refine (ords_pre n j c).trans ?_
    rw [← Nat.add_assoc, ords_succ]
    exact List.prefix_append _ _
theorem all_pre {n c k : Nat} (hc : c ≤ n) (hk : k ≤ 2 ^ n) : ords n c ++ lay n c k <+: ords n (n + 1) := by
  have h1 : ords n c ++ lay n c k <+: ords n (c + 1) := by
    rw [ords_succ]
    exact List.prefix_append_right_inj _ |>.2 (lay_preM hk)
  refine h1.trans ?_
  have := ords_pre n (n - c) (c + 1)
  rwa [show c + 1 + (n - c) = n + 1 by omega] at this
theorem all_len {n c k : Nat} (hn : n ≤ 8) (hc : c ≤ n) (hk : k < 2 ^ n) : (ords n c ++ lay n c k).length < 4096 := by
  have h1 := ords_len n c
  have h2 := lay_len n c k
  have h3 : (2 : Nat) ^ n ≤ 256 := Nat.pow_le_pow_right (n := 2) (by omega) hn
  have h4 : c * 2 ^ n ≤ 8 * 256 := Nat.mul_le_mul (by omega) h3
  rw [List.length_append]
  omega
/-- What a round keeps: the number's box. -/
def KpB (b : Nat) (W W' : World) : Prop := ∀ v, W.cell? ⟨b, 0, none⟩ = some v → W'.cell? ⟨b, 0, none⟩ = some v
theorem KpB.refl (b : Nat) (W : World) : KpB b W W := fun _ h => h
theorem KpB.trans {b : Nat} {A B C : World} (h : KpB b A B) (k : KpB b B C) : KpB b A C := fun v hv => k v (h v hv)
theorem KpB.put {b : Nat} (W : World) (l : Nat) (o o' : Obj) (h : W.heap[l]? = some o) (ho : o.isCells = false) : KpB b W (W.putObj l o') :=
  fun v hv => cell_kept hv (grownBy_putObj' W l o') fun r e => by cases e; exact ⟨o, h, ho⟩
theorem KpB.below {b n : Nat} {W W' : World} (h : Below n W W') (hb : b < n) : KpB b W W' := fun v hv => (h.cell (p := ⟨b, 0, none⟩) hb).trans hv
theorem KpB.set {b : Nat} (W : World) (a : Addr) (v : Value) (h : a.block ≠ b) : KpB b W (W.setCell a v) :=
  fun u hu => (World.cell?_of_block (Below.heap_setCell W a v b (fun e => h e.symm))).trans hu
end Go.Label
namespace Go.Proofs.Ytcbmifaobdamhaa
open Go.RowKit Go.Own Go.Theory Go.BigFrame Go.Ib Go.Label Go.Shelf
attribute [local go_sem] Oper.semAt_some SqC.wide_fn SqC.wide_round_fn
theorem sets_any (n : Int) (w : World) : Calls Try.prog 45 #[.int .i64 n] w fun e w' => e = .returned (.func (.func 64) #[] #[.pointer (some ⟨w.heap.size, 0, none⟩)]) ∧ w' = w.alloc (.cells #[.int .i64 n] 3) := by
  go_enter Try.func45, Try.ntmps45
  go_wp2
  go_ret
  exact ⟨rfl, rfl⟩
set_option maxRecDepth 100000 in
set_option maxHeartbeats 2000000 in
theorem sets1_in (lv : Nat) (hlv : 1 ≤ lv) (l Bs n : Nat) (hn : n ≤ 8) (J Jx : List (St n) → World → Prop)
    (hY : ∀ pre (x : St n) W, J pre W → pre.length < 4096 → YieldAt Fence.wide (lv - 1) Try.prog l #[.int .i64 (x.1 : Int)] W fun e W' =>
      (e = .returned (.bool true) ∧ J (pre ++ [x]) W' ∧ KpB Bs W W') ∨ (e = .returned (.bool false) ∧ Jx (pre ++ [x]) W'))
    (W : World) (hBs : W.cell? ⟨Bs, 0, none⟩ = some (.int .i64 n)) (h0 : J [] W) :
    CallsIn Fence.wide lv Try.prog 64 #[.func (.yield l) #[] #[], .pointer (some ⟨Bs, 0, none⟩)] W fun e W' => (∃ v, e = .returned v) ∧
      ((∃ ys, ys = ords n (n + 1) ∧ J ys W') ∨ (∃ pre, pre <+: ords n (n + 1) ∧ Jx pre W')) := by
  have hp := wrap_pow (n := n) (by omega)
  have hM256 : (2 : Nat) ^ n ≤ 256 := Nat.pow_le_pow_right (n := 2) (by omega) hn
  obtain ⟨M, hM⟩ : ∃ M, M = 2 ^ n := ⟨_, rfl⟩
  rw [← hM] at hp hM256
  have HM := Lib.hid hM; clear hM
  refine callsIn_of_wp Try.func64 rfl trivial ?_ rfl
  simp only [Try.ntmps64, List.size_toArray, List.length_cons, List.length_nil, Nat.reduceAdd, Nat.reduceSub, Array.replicate_succ, Array.replicate_zero, List.push_toArray, List.append_toArray, List.nil_append, List.cons_append]
  gi_wp2
  gi_loopw [7] (fun i wr => ∃ c : Nat, c ≤ n + 1 ∧ i = .int .i64 c ∧ J (ords n c) wr ∧ KpB Bs W wr)
    (fun i _ => n + 1 - (vInt i).toNat)
  case atStart => exact ⟨0, Nat.zero_le _, rfl, h0, KpB.refl _ _⟩
  case round =>
    obtain ⟨c, hc, rfl, hJs, hnx⟩ := hrel
    have hcx : wr.cell? ⟨Bs, 0, none⟩ = some (.int .i64 n) := hnx _ hBs
    have HJ := Lib.hid hJs; clear hJs
    have HX := Lib.hid hnx; clear hnx
    by_cases hlt : c < n + 1
    · have hlt' : (c : Int) < (n : Int) + 1 := by omega
      have hd : decide ((c : Int) < (n : Int) + 1) = true := decide_eq_true hlt'
      gi_wp2
      simp only [hp, hd]
      clear hd hlt'
      gi_loopw [12] (fun i wq => ∃ k : Nat, k ≤ M ∧ i = .int .i64 k ∧ J (ords n c ++ lay n c k) wq ∧ KpB Bs W wq)
        (fun i _ => M - (vInt i).toNat)
      case atStart => exact ⟨0, Nat.zero_le _, rfl, by rw [show lay n c 0 = [] from rfl, List.append_nil]; exact HJ.out, HX.out⟩
      case round =>
        clear HJ HX hcx
        obtain ⟨k, hk, rfl, hJs, hnx⟩ := hrel
        have HJ := Lib.hid hJs; clear hJs
        have HX := Lib.hid hnx; clear hnx
        by_cases hkM : k < M
        · have hkn : k < 2 ^ n := by rw [← HM.out]; exact hkM
          have hw64 : IntKind.u64.wrap (k : Int) = k := wrap_u64_small k (by omega)
          have hlen := all_len hn (show c ≤ n by omega) hkn
          obtain ⟨fn, tmps, assign, body, hy, hR⟩ := hY _ ⟨k, hkn⟩ wr HJ.out hlen
          dsimp only at hy
          have HR := Lib.hid hR; clear hR
          have kpop := pop_le16 k
          obtain ⟨pc, hpc⟩ : ∃ pc, pc = pop k := ⟨_, rfl⟩
          have hones := ones_any k (by omega)
          simp only [← hpc] at hones kpop
          have HPC := Lib.hid hpc; clear hpc
          have HON := Lib.hid hones; clear hones
          by_cases hpe : pc = c
          · subst hpe
            gi_wp2_with (gi_at_call 65; refine (callsIn_wide.2 (HON.out _)).mono ?_; rintro e w' ⟨rfl, rfl⟩)
            gi_wp2
            refine HR.out.mono ?_
            rintro e W3 (⟨rfl, hJ3, hk3⟩ | ⟨rfl, hJx3⟩)
            · have hJ4 : J (ords n pc ++ lay n pc (k + 1)) W3 := by
                rw [lay_yes hkn HPC.out.symm, ← List.append_assoc]; exact hJ3
              have HJ4 := Lib.hid hJ4; clear hJ4 hJ3
              have HK3 := Lib.hid hk3; clear hk3
              gi_wp2
              go_roundw
              case rel => exact ⟨k + 1, by omega, by simp, HJ4.out, HX.out.trans HK3.out⟩
              case measure => simp [vInt]; omega
            · have hpre : ords n pc ++ lay n pc k ++ [⟨k, hkn⟩] <+: ords n (n + 1) := by
                have := all_pre (n := n) (c := pc) (k := k + 1) (by omega) (by omega)
                rwa [lay_yes hkn HPC.out.symm, ← List.append_assoc] at this
              have HP := Lib.hid hpre; clear hpre
              have HJX := Lib.hid hJx3; clear hJx3
              gi_wp2
              refine bodyPost_ret (results_none rfl _ _ _) rfl ?_
              exact ⟨⟨_, rfl⟩, .inr ⟨_, HP.out, HJX.out⟩⟩
          · have hq1 : ((pc : Int) = c) = False := eq_false (by omega)
            have hq2 : (pc = c) = False := eq_false hpe
            have hq3 : ((pc : Int) == c) = false := by rw [beq_eq_false_iff_ne]; omega
            have HNE := Lib.hid hpe; clear hpe
            gi_wp2_with (gi_at_call 65; refine (callsIn_wide.2 (HON.out _)).mono ?_; rintro e w' ⟨rfl, rfl⟩)
            gi_wp2
            go_roundw
            case rel => exact ⟨k + 1, by omega, by simp, by rw [lay_no (by rw [← HPC.out]; exact HNE.out)]; exact HJ.out, HX.out⟩
            case measure => simp [vInt]; omega
        · obtain rfl : k = M := by omega
          have hJ5 : J (ords n (c + 1)) wr := by rw [ords_succ, ← HM.out]; exact HJ.out
          have HJ5 := Lib.hid hJ5; clear hJ5
          gi_wp2
          go_roundw
          case rel => exact ⟨c + 1, by omega, by simp, HJ5.out, HX.out⟩
          case measure => simp [vInt]; omega
    · obtain rfl : c = n + 1 := by omega
      gi_wp2
      go_end0
      exact ⟨⟨_, rfl⟩, .inl ⟨_, rfl, HJ.out⟩⟩
theorem sets1_stops (lv : Nat) (hlv : 1 ≤ lv) (Bs n : Nat) (hn : n ≤ 8) (w : World) (hb : Bs < w.heap.size) (hBs : w.cell? ⟨Bs, 0, none⟩ = some (.int .i64 n)) :
    SeqStopsK Fence.wide lv Try.prog 64 #[.pointer (some ⟨Bs, 0, none⟩)] (fun x : St n => #[Value.int .i64 (x.1 : Int)]) (KpB Bs) (fun ys => ys = ords n (n + 1)) (fun pre => pre <+: ords n (n + 1)) 4096 w :=
  fun l J Jx W hW _ _ hY h0 => sets1_in lv hlv l Bs n hn J Jx hY W ((hW.cell (p := ⟨Bs, 0, none⟩) hb).trans hBs) h0
end Go.Proofs.Ytcbmifaobdamhaa
