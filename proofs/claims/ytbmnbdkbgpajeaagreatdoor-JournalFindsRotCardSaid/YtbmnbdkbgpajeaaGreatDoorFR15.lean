/- journal: the sectors of a record, one by one. -/
import Derived.Laws.CopyOwn
import Derived.Test.YtbmnbdkbgpajeaaGreatDoorFR14
import Derived.Deep.AppendLies
/- journal: the sectors of a record, one by one. -/
section
namespace Go.Jn
open Go.RowKit Go.Own
/-- the first k sectors -/
def fsts (n k : Nat) : List (Ix n) := (List.range k).filterMap fun x => if h : x < n then some ⟨x, h⟩ else none
theorem fsts_succ {n k : Nat} (h : k < n) : fsts n (k + 1) = fsts n k ++ [⟨k, h⟩] := by
  unfold fsts
  rw [List.range_succ, List.filterMap_append]
  simp [h]
theorem fsts_len (n k : Nat) : (fsts n k).length ≤ k := by
  unfold fsts
  have := List.length_filterMap_le (fun x => if h : x < n then some (⟨x, h⟩ : Ix n) else none) (List.range k)
  rwa [List.length_range] at this
theorem fsts_pre {n : Nat} : ∀ (j k : Nat), fsts n k <+: fsts n (k + j)
  | 0, k => List.prefix_refl _
  | j + 1, k => by
    refine (fsts_pre j k).trans ?_
    rw [← Nat.add_assoc]
    unfold fsts
    rw [List.range_succ, List.filterMap_append]
    exact List.prefix_append _ _
theorem fsts_preN {n k : Nat} (h : k ≤ n) : fsts n k <+: fsts n n := by
  have := fsts_pre (n := n) (n - k) k
  rwa [show k + (n - k) = n by omega] at this
theorem grown_of {W W' : World} {B : Nat} (hB : W.heap.size ≤ B) (h : Below B W W') : W.grownBy W' none := ⟨h.os, h.tape, h.output, h.size, fun k hk _ => h.block k (by omega)⟩
theorem KpC.below {F : List Nat} {n : Nat} {W W' : World} (h : Below n W W') (hF : ∀ g ∈ F, g < n) : KpC F W W' := fun g hg i _v hv => (h.cell (p := ⟨g, i, none⟩) (hF g hg)).trans hv
theorem mix_app (a bs : List UInt8) (j off : Nat) (ho : off = a.length) : mix ((a ++ List.replicate (bs.length + j) 0).map byv) off bs = ((a ++ bs) ++ List.replicate j 0).map byv := by
  subst ho
  unfold mix
  rw [← List.map_take, ← List.map_drop, List.take_left, List.drop_append, List.drop_of_length_le (by omega), show a.length + bs.length - a.length = bs.length by omega, List.drop_replicate, show bs.length + j - bs.length = j by omega]
  simp
theorem head_form (n k : Nat) (r : List UInt8) : (le 4 n ++ le 2 k ++ le 2 r.length ++ r.take (min r.length 48)) ++ List.replicate (56 - min r.length 48) 0 = head n k r ++ List.replicate 8 0 := by
  have e1 : r.take (min r.length 48) = r.take 48 := by rw [Nat.min_comm, ← List.take_take, List.take_length]
  have e2 : List.replicate (56 - min r.length 48) (0 : UInt8) = List.replicate (48 - r.length) 0 ++ List.replicate 8 0 := by
    rw [List.replicate_append_replicate]; congr 1; omega
  unfold head
  rw [e1, e2]
  simp
theorem wpList_copy_into {P : Program} {ops : Array Oper} {rest : List Oper} {o : Oper} {a : Act} {w : World} {Q : Exit → Act → World → Prop} {g off dLen dCap : Nat} {l : List Value} {t dT sT e : TypeId} {x y : Operand} {bs : List UInt8} (L : List UInt8)
    (hB : Blk w g l t) (hgd : o.guard = none) (ho : o.op = .call { callee := .builtin .copy, args := #[x, y], argTypes := #[dT, sT] }) (hx : a.eval x = .slice (some ⟨g, off, none⟩) dLen dCap) (hy : a.eval y = str bs)
    (hu : P.underlying dT = some (.slice e)) (hi : (P.info? e).map (·.size) = some 1) (k : Nat) (hk : k = min bs.length dLen) (hfit : off + k ≤ l.length) (hL : mix l off (bs.take k) = L.map byv)
    (h : ∀ w', Blk w' g (L.map byv) t → Oth g w w' → wpList P ops Q rest (a.put o.dst (.int .i64 k)) w') : wpList P ops Q (o :: rest) a w := by
  refine wpList_copy_str hB hgd ho hx hy hu hi k hk hfit fun w' h1 h2 => h w' ?_ h2
  rw [← hL]
  unfold mix
  rw [show (bs.take k).length = k by rw [List.length_take]; omega]
  exact h1
theorem wpListIn_value {P : Program} {n : Nat} {ops : Array Oper} {rest : List Oper} {o : Oper} {a : Act} {w w' : World} {Q : Exit → Act → World → Prop} {v : Value} (hgd : o.guard = none) (hd : ∀ c, o.op ≠ .defer c)
    (h : (execOp a.eval o).run P w = .ok (.value v) w') (hn : wpListIn Fence.wide n P ops Q rest (a.put o.dst v) w') : wpListIn Fence.wide n P ops Q (o :: rest) a w :=
  wpListIn_plain hgd fun K hK => by
    unfold Oper.wpIn
    refine ⟨fun _ _ => trivial, ?_⟩
    rw [Oper.semAt_eq _ _ _ hd, h]
    exact hK _ _ hn
end Go.Jn
namespace Go.Proofs.YtbmnbdkbgpajeaaGreatDoor
open Go.RowKit Go.Own Go.Jn Go.Disk Go.BigFrame Go.Sha Go.Shelf
attribute [local irreducible] SqW
attribute [local go_sem] setCell_twice str_size op_str_eql op_str_neq Oper.semAt_some SqC.wide_fn SqC.wide_round_fn
theorem put_app (a : List UInt8) (n k g off cap j : Nat) (t : TypeId) (w : World) (hB : Blk w g ((a ++ List.replicate (k + j) 0).map byv) t) (hn : n < 9223372036854775808) (ho : off = a.length) (hcap : k ≤ cap ∧ cap ≤ 1000) :
    Calls Tryz.prog 91 #[.slice (some ⟨g, off, none⟩) k cap, .int .i64 n] w fun e w' => e = .returned (.tuple #[]) ∧ Blk w' g ((a ++ le k n ++ List.replicate j 0).map byv) t ∧ Chg [g] w w' := by
  refine (put_any n k g off cap _ t w hB hn (by rw [List.length_map, List.length_append, List.length_replicate]; omega) hcap).mono ?_
  rintro e w' ⟨h1, h2, h3⟩
  refine ⟨h1, ?_, h3⟩
  have := mix_app a (le k n) j off ho
  rw [le_length] at this
  rw [this] at h2
  exact h2
theorem parts_any (n : Int) (t : List UInt8) (w : World) : Calls Tryz.prog 74 #[.int .i64 n, str t] w fun e w' => e = .returned (.func (.func 90) #[] #[.pointer (some ⟨w.heap.size + 1, 0, none⟩), .pointer (some ⟨w.heap.size, 0, none⟩)]) ∧ w' = (w.alloc (.cells #[.int .i64 n] 3)).alloc (.cells #[str t] 9) := by
  go_enter Tryz.func74, Tryz.ntmps74
  go_wp2
  go_ret
  exact ⟨rfl, rfl⟩
set_option maxRecDepth 100000 in
set_option maxHeartbeats 2000000 in
theorem parts1_in (lv : Nat) (hlv : 1 ≤ lv) (l Bt Bn n : Nat) (t : List UInt8) (hn : n ≤ 4096) (ht : t.length ≤ 8000) (J Jx : List (Ix (cntN t.length)) → World → Prop)
    (W : World) (hJa : AbidesFrom W.heap.size J)
    (hY : ∀ pre (x : Ix (cntN t.length)) W, J pre W → pre.length < 200 → YieldAt Fence.wide (lv - 1) Tryz.prog l #[.agg ((sect n t x.1).map byv).toArray] W fun e W' =>
      (e = .returned (.bool true) ∧ J (pre ++ [x]) W' ∧ KpC [Bt, Bn, 2] W W') ∨ (e = .returned (.bool false) ∧ Jx (pre ++ [x]) W'))
    (hBt : W.cell? ⟨Bt, 0, none⟩ = some (str t)) (hBn : W.cell? ⟨Bn, 0, none⟩ = some (.int .i64 n)) (hK : Cells W 2 0 (Kt.map U)) (h1 : 2 < W.heap.size) (h0 : J [] W) :
    CallsIn Fence.wide lv Tryz.prog 90 #[.func (.yield l) #[] #[], .pointer (some ⟨Bt, 0, none⟩), .pointer (some ⟨Bn, 0, none⟩)] W fun e W' => (∃ v, e = .returned v) ∧
      ((∃ ys, ys = fsts (cntN t.length) (cntN t.length) ∧ J ys W') ∨ (∃ pre, pre <+: fsts (cntN t.length) (cntN t.length) ∧ Jx pre W')) := by
  have hcn := cntN_pos ht
  have hlts : ∀ k, k < cntN t.length → 48 * k ≤ t.length := fun k hk => (cntN_lt ht hk).1
  have HLT := Lib.hid hlts; clear hlts
  have hcI := cntI_nat t.length
  obtain ⟨C, hC⟩ : ∃ C, C = cntN t.length := ⟨_, rfl⟩
  rw [← hC] at hcI
  refine callsIn_of_wp Tryz.func90 rfl trivial ?_ rfl
  simp only [Tryz.ntmps90, List.size_toArray, List.length_cons, List.length_nil, Nat.reduceAdd, Nat.reduceSub, Array.replicate_succ, Array.replicate_zero, List.push_toArray, List.append_toArray, List.nil_append, List.cons_append]
  have HC := Lib.hid hC; clear hC
  gi_wp2_with (gi_at_call 16; refine (callsIn_wide.2 (count_any _ _)).mono ?_; rintro e w' ⟨rfl, rfl⟩)
  gi_loopw [11] (fun i wr => ∃ k : Nat, k ≤ C ∧ i = .int .i64 k ∧ J (fsts _ k) wr ∧ KpC [Bt, Bn, 2] w' wr)
    (fun i _ => C - (jInt i).toNat)
  case atStart => exact ⟨0, Nat.zero_le _, rfl, h0, KpC.refl _ _⟩
  case round =>
    obtain ⟨k, hk, rfl, hJs, hnx⟩ := hrel
    by_cases hlt : k < C
    · have hlc : (k : Int) < C := by omega
      have hkc : k < cntN t.length := by rw [← HC.out]; exact hlt
      have hct : wr.cell? ⟨Bt, 0, none⟩ = some (str t) := hnx Bt (by simp) _ _ hBt
      have hcn2 : wr.cell? ⟨Bn, 0, none⟩ = some (.int .i64 n) := hnx Bn (by simp) _ _ hBn
      have hK2 := hnx.cells hK (by simp)
      have h12 : 2 < wr.heap.size := World.block_lt_of_cell? _ _ (hK2 0 (U 1116352408) rfl)
      have lBt := World.block_lt_of_cell? _ _ hct
      have lBn := World.block_lt_of_cell? _ _ hcn2
      have h48 := HLT.out k hkc
      obtain ⟨m, hm⟩ : ∃ m, m = 48 * k := ⟨_, rfl⟩
      rw [← hm] at h48
      have hmi : (48 : Int) * (k : Int) = (m : Int) := by omega
      have hsl := fun W => slice9 W t m h48
      obtain ⟨r, hr⟩ : ∃ r, r = t.drop m := ⟨_, rfl⟩
      simp only [← hr] at hsl
      have hrl : r.length ≤ 8000 := by rw [hr, List.length_drop]; omega
      have HR := Lib.hid hr; clear hr
      have HM := Lib.hid hm; clear hm
      have HJ := Lib.hid hJs; clear hJs
      have HX := Lib.hid hnx; clear hnx
      have HK2 := Lib.hid hK2; clear hK2
      gi_wp2
      obtain ⟨w1, hw1⟩ : ∃ w1, wr.alloc (.cells #[.int .u8 0, .int .u8 0, .int .u8 0, .int .u8 0, .int .u8 0, .int .u8 0, .int .u8 0, .int .u8 0, .int .u8 0, .int .u8 0, .int .u8 0, .int .u8 0, .int .u8 0, .int .u8 0, .int .u8 0, .int .u8 0, .int .u8 0, .int .u8 0, .int .u8 0, .int .u8 0, .int .u8 0, .int .u8 0, .int .u8 0, .int .u8 0, .int .u8 0, .int .u8 0, .int .u8 0, .int .u8 0, .int .u8 0, .int .u8 0, .int .u8 0, .int .u8 0, .int .u8 0, .int .u8 0, .int .u8 0, .int .u8 0, .int .u8 0, .int .u8 0, .int .u8 0, .int .u8 0, .int .u8 0, .int .u8 0, .int .u8 0, .int .u8 0, .int .u8 0, .int .u8 0, .int .u8 0, .int .u8 0, .int .u8 0, .int .u8 0, .int .u8 0, .int .u8 0, .int .u8 0, .int .u8 0, .int .u8 0, .int .u8 0, .int .u8 0, .int .u8 0, .int .u8 0, .int .u8 0, .int .u8 0, .int .u8 0, .int .u8 0, .int .u8 0] 96) = w1 := ⟨_, rfl⟩
      have k1 : Blk w1 wr.heap.size (([] ++ List.replicate (4 + 60) (0 : UInt8)).map byv) 96 := by rw [← hw1]; exact Blk.new _ _ _
      have b1 : Below wr.heap.size wr w1 := by rw [← hw1]; exact alloc_below _ _
      obtain ⟨S, hS⟩ : ∃ S, S = wr.heap.size := ⟨_, rfl⟩
      rw [hw1, ← hS]
      rw [← hS] at k1 b1 lBt lBn h12
      clear hw1
      have HS := Lib.hid hS; clear hS
      have q2 : w1.cell? ⟨Bn, 0, none⟩ = some (.int .i64 n) := (b1.cell (p := ⟨Bn, 0, none⟩) lBn).trans hcn2
      refine wpIn_wide.2 ?_
      refine wp_region_tail 2 (by kernel_rfl) (by kernel_rfl) ?_
      simp only [List.take_succ_cons, List.take_zero, List.drop_succ_cons, List.drop_zero]
      repeat (go_big_quiet_step (fail))
      refine wpQuiet_nil ?_
      intro nq
      go_wp2_with fail
      refine (put_app [] n 4 S 0 64 60 96 _ (k1.drewN nq) (by omega) rfl (by omega)).mono ?_
      rintro e w2 ⟨rfl, k2, c2⟩
      go_wp2_with fail
      gi_wp2_with (gi_at_call 91; refine (callsIn_wide.2 (put_app (le 4 n) k 2 S 4 60 58 96 w2 k2 (by omega) (le_length 4 n).symm (by omega))).mono ?_)
      rintro e w3 ⟨rfl, k3, c3⟩
      gi_wp2_with (gi_at_call 91; refine (callsIn_wide.2 (put_app (le 4 n ++ le 2 k) r.length 2 S 6 58 56 96 w3 k3 (by omega) (by simp [le_length]) (by omega))).mono ?_)
      rintro e w4 ⟨rfl, k4, c4⟩
      go_simp
      iterate 5 gi_step
      refine wpIn_wide.2 ?_
      obtain ⟨kk, hkk⟩ : ∃ kk, kk = min r.length 48 := ⟨_, rfl⟩
      have hxl : (r.take kk).length = kk := by rw [List.length_take]; omega
      obtain ⟨L, hL⟩ : ∃ L, L = head n k r ++ List.replicate 8 0 := ⟨_, rfl⟩
      have hmx : mix ((le 4 n ++ le 2 k ++ le 2 r.length ++ List.replicate 56 0).map byv) 8 (r.take kk) = L.map byv := by
        have e := mix_app (le 4 n ++ le 2 k ++ le 2 r.length) (r.take kk) (56 - kk) 8 (by simp [le_length])
        rw [hxl, show kk + (56 - kk) = 56 by omega] at e
        rw [e, hL, hkk, head_form]
      have HL := Lib.hid hL; clear hL
      have HMX := Lib.hid hmx; clear hmx
      have HKK := Lib.hid hkk; clear hkk
      clear hxl
      go_wp2_with (refine wpList_copy_into (bs := r) L k4 rfl rfl rfl rfl hTb (by kernel_rfl) kk HKK.out (by rw [List.length_map, List.length_append, List.length_replicate]; have := HKK.out; simp [le_length]; omega) HMX.out ?_)
      intro w5 k5 o5
      have e1 : S < w1.heap.size := k1.lt
      have e2 : S < w2.heap.size := k2.lt
      have e3 : S < w3.heap.size := k3.lt
      have e4 : S < w4.heap.size := k4.lt
      have b2 : Below S w1 w2 := (below_drewN (Below.refl _ w1) nq).trans (c2.below (by simpa using Nat.le_of_lt e1) (by simp))
      have b5 : Below S wr w5 := (((b1.trans b2).trans (c3.below (Nat.le_of_lt e2) (by simp))).trans (c4.below (Nat.le_of_lt e3) (by simp))).trans (o5.below (Below.refl _ _) (Nat.le_refl _))
      clear c2 c3 c4 o5 b1 b2 k1 k2 k3 k4 e1 e2 e3 e4 q2
      have hL56 : L.length = 64 := by rw [HL.out, List.length_append, head_length]; rfl
      have hLt : L.take 56 = head n k r := by rw [HL.out, List.take_append_of_le_length (by rw [head_length]; exact Nat.le_refl _), List.take_of_length_le (by rw [head_length]; exact Nat.le_refl _)]
      have hsq := sl_part L k5 0 56 64 (by omega) (by omega)
      rw [List.drop_zero, hLt] at hsq
      have HSQ := Lib.hid hsq; clear hsq
      have HLT6 := Lib.hid hLt; clear hLt
      have HL56 := Lib.hid hL56; clear hL56
      have HB5 := Lib.hid b5; clear b5
      have HK5 := Lib.hid k5; clear k5
      have HHD := Lib.hid (head_length n k r)
      obtain ⟨hd, hhd⟩ : ∃ hd, hd = head n k r := ⟨_, rfl⟩
      rw [← hhd] at HSQ HHD HLT6 HL
      have HHE := Lib.hid hhd; clear hhd
      have hS5 : S < w5.heap.size := HK5.out.lt
      go_wp2_with fail
      gi_step
      refine wpIn_wide.2 ?_
      go_wp2_with fail
      refine (hsum_len hd 56 HHD.out _ _ w5 (by have := HSQ.out; rw [HHD.out] at this ⊢; exact this) (by decide) (HK2.out.below HB5.out h12) (Nat.lt_trans h12 hS5)).mono ?_
      rintro e w6 ⟨rfl, b6⟩
      have HB6 := Lib.hid b6; clear b6
      go_wp2_with (refine wpList_store_blk (ty := 125) (n := 32) (vs := (sha hd).map byv) (Blk.new _ _ 125) rfl rfl rfl rfl rfl info32 (by simp [sha_length]) (by simp) (bytes_oneCell _) ?_)
      intro w7 k7 o7
      obtain ⟨T, hT⟩ : ∃ T, T = w6.heap.size := ⟨_, rfl⟩
      have b7a : Below w6.heap.size w6 w7 := o7.below (alloc_below _ _) (Nat.le_refl _)
      have b7 : Below w5.heap.size w5 w7 := HB6.out.trans (b7a.mono HB6.out.size)
      have b8 : Below S wr w7 := HB5.out.trans (b7.mono (Nat.le_of_lt hS5))
      have k7' : Blk w7 T ((sha hd).map byv) 125 := by rw [hT]; simpa using k7
      have k8 : Blk w7 S (L.map byv) 96 := HK5.out.below b7 hS5
      rw [← hT]
      clear hT k7 o7 b7a b7 HK5 HB5 HB6 HSQ
      have HB8 := Lib.hid b8; clear b8
      have HK8 := Lib.hid k8; clear k8
      have HK7 := Lib.hid k7'; clear k7'
      go_wp2_with fail
      gi_step
      refine wpIn_wide.2 ?_
      refine wp_region_tail 2 (by kernel_rfl) (by kernel_rfl) ?_
      simp only [List.take_succ_cons, List.take_zero, List.drop_succ_cons, List.drop_zero]
      repeat (go_big_quiet_step (fail))
      refine wpQuiet_nil ?_
      intro nq2
      refine wpList_copy_splice rfl _ _ _ _ rfl 5 hTb (by kernel_rfl) (some ⟨S, 56, none⟩) (some ⟨T, 0, none⟩) 8 8 32 32 rfl rfl S 56 (L.map byv) 96 (HK8.out.drewN nq2) (((sha hd).take 8).map byv) (by simp [sha_length]) (fun _ => ⟨rfl, ⟨T, 0, none⟩, rfl, fun j v hj => ?hsrc⟩) (by simp [sha_length, HL56.out]) (bytes_oneCell _) S wr (below_drewN HB8.out nq2) (Nat.le_refl _) ?_
      case hsrc =>
        have e : j < ((sha hd).take 8).length := by have := (List.getElem?_eq_some_iff.1 hj).1; simpa using this
        have := (HK7.out.drewN nq2).cells0
        rw [Addr.add_lit]
        refine this j v ?_
        rw [List.map_take, List.getElem?_take_of_lt (by have : ((sha hd).take 8).length ≤ 8 := List.length_take_le _ _; omega)] at hj
        exact hj
      intro w8 hs8 b9
      have e8 : splice (L.map byv) 56 (((sha hd).take 8).map byv) = (sect n t k).map byv := by
        have e64 : (L.map byv).drop (56 + (((sha hd).take 8).map byv).length) = [] := List.drop_of_length_le (by simp [HL56.out, sha_length])
        unfold splice sect stamp
        rw [e64, List.append_nil, ← List.map_take, HLT6.out, ← List.map_append, HHE.out, HR.out, HM.out]
      have k9 : Blk w8 S ((sect n t k).map byv) 96 := by have := hs8.out; rw [e8] at this; exact this
      clear e8 hs8
      have hJ8 : J (fsts _ k) w8 := hJa _ wr w8 none HJ.out (grown_of (by rw [HS.out]; exact Nat.le_refl _) b9) (fun r h => by cases h)
      have hlen : (fsts (cntN t.length) k).length < 200 := by have := fsts_len (cntN t.length) k; omega
      obtain ⟨fn, tmps, assign, body, hy, hR⟩ := hY _ ⟨k, hkc⟩ w8 hJ8 hlen
      dsimp only at hy hR
      have HRR := Lib.hid hR; clear hR
      have kp9 : KpC [Bt, Bn, 2] w' w8 := HX.out.trans (KpC.below b9 (by
        intro g hg
        simp at hg
        rcases hg with rfl | rfl | rfl
        · exact lBt
        · exact lBn
        · exact h12))
      have KP9 := Lib.hid kp9; clear kp9
      clear b9
      have HK9 := Lib.hid k9; clear k9
      clear HJ HX hJ8 hlen HK7 HK8 HB8
      have hl8 : (((sha hd).take 8).map byv).length = 8 := by simp [sha_length]
      rw [hl8]
      clear hl8
      simp only [Act.put, List.setIfInBounds_toArray, List.set_cons_zero, List.set_cons_succ]
      go_wp2_with fail
      gi_wp2_with (refine wpListIn_value rfl (fun c h => by cases h) (load_agg_exec rfl rfl (run_load_agg (P := Tryz.prog) (ty := 96) HK9.out.cells0 aggSec (by rw [List.length_map, sect_length]; exact infoSec))) ?_)
      refine HRR.out.mono ?_
      rintro e W3 (⟨rfl, hJ3, hk3⟩ | ⟨rfl, hJx3⟩)
      · have HJ3 := Lib.hid hJ3; clear hJ3
        have HK3 := Lib.hid hk3; clear hk3
        gi_wp2
        go_roundw
        case rel =>
          refine ⟨k + 1, by omega, by simp, ?_, KP9.out.trans HK3.out⟩
          rw [fsts_succ hkc]; exact HJ3.out
        case measure => simp [jInt]; omega
      · have HJX := Lib.hid hJx3; clear hJx3
        gi_wp2
        refine bodyPost_ret (results_none rfl _ _ _) rfl ?_
        refine ⟨⟨_, rfl⟩, .inr ⟨_, ?_, HJX.out⟩⟩
        have := fsts_preN (n := cntN t.length) (k := k + 1) (by omega)
        rw [fsts_succ hkc] at this
        exact this
    · obtain rfl : k = C := by omega
      gi_wp2
      go_end0
      exact ⟨⟨_, rfl⟩, .inl ⟨_, by rw [← HC.out], hJs⟩⟩
theorem parts1_stops (lv : Nat) (hlv : 1 ≤ lv) (Bt Bn n : Nat) (t : List UInt8) (hn : n ≤ 4096) (ht : t.length ≤ 8000) (w : World) (hbt : Bt < w.heap.size) (hbn : Bn < w.heap.size)
    (hBt : w.cell? ⟨Bt, 0, none⟩ = some (str t)) (hBn : w.cell? ⟨Bn, 0, none⟩ = some (.int .i64 n)) (hK : Cells w 2 0 (Kt.map U)) (h1 : 2 < w.heap.size) :
    SeqStopsK Fence.wide lv Tryz.prog 90 #[.pointer (some ⟨Bt, 0, none⟩), .pointer (some ⟨Bn, 0, none⟩)] (fun x : Ix (cntN t.length) => #[.agg ((sect n t x.1).map byv).toArray]) (KpC [Bt, Bn, 2]) (fun ys => ys = fsts (cntN t.length) (cntN t.length)) (fun pre => pre <+: fsts (cntN t.length) (cntN t.length)) 200 w :=
  fun l J Jx W hW hJa _ hY h0 => parts1_in lv hlv l Bt Bn n t hn ht J Jx W hJa hY ((hW.cell (p := ⟨Bt, 0, none⟩) hbt).trans hBt) ((hW.cell (p := ⟨Bn, 0, none⟩) hbn).trans hBn) (hK.below hW h1) (Nat.lt_of_lt_of_le h1 hW.size) h0
end Go.Proofs.YtbmnbdkbgpajeaaGreatDoor
end
/- journal: Pack. -/
section
namespace Go.Jn
open Go.RowKit Go.Own
/-- Pack as it answers -/
def packE (n : Int) (t : List UInt8) : List (List UInt8) × Int := if n < 1 ∨ 4096 < n then ([], 1) else if 8000 < t.length then ([], 4) else (pack n.toNat t, 0)
def secsOf (n : Nat) (t : List UInt8) (pre : List (Ix (cntN t.length))) : List (List UInt8) := pre.map fun x => sect n t x.1
theorem secsOf_all (n : Nat) (t : List UInt8) : secsOf n t (fsts (cntN t.length) (cntN t.length)) = pack n t := by
  unfold secsOf pack
  generalize cntN t.length = c
  have : ∀ k, k ≤ c → (fsts c k).map (fun x => sect n t x.1) = (List.range k).map (sect n t) := fun k => by
    induction k with
    | zero => intro _; rfl
    | succ k ih =>
      intro hk
      rw [fsts_succ (by omega), List.map_append, ih (by omega), List.range_succ, List.map_append]
      rfl
  exact this c (Nat.le_refl _)
theorem blk_same {w : World} {g : Nat} {l l' : List Value} {t t' : TypeId} (h : Blk w g l t) (h' : Blk w g l' t') : l = l' := by
  unfold Blk at h h'
  rw [h] at h'
  injection h' with h'
  injection h' with h1
  exact congrArg Array.toList h1
theorem conv_exec {P : Program} {o : Oper} {ρ : Operand → Value} {src dst : TypeId} {x : Operand} {v : Value} {w w' : World} (ho : o.op = .convert src dst x) (h : (convert src dst (ρ x)).run P w = .ok v w') : (execOp ρ o).run P w = .ok (.value v) w' := by
  unfold execOp
  simp only [ho, Sem.run_bind, h, Sem.run_pure, Result.andThen_ok]
end Go.Jn
namespace Go.Proofs.YtbmnbdkbgpajeaaGreatDoor
open Go.RowKit Go.Own Go.Jn Go.Disk Go.BigFrame Go.Sha Go.Shelf
attribute [local irreducible] SqW
attribute [local irreducible] SqC.SqW
attribute [local go_sem] setCell_twice str_size op_str_eql op_str_neq Oper.semAt_some SqC.wide_fn SqC.wide_round_fn
theorem hTss : Tryz.prog.underlying 22 = some (.slice 9) := by kernel_rfl
theorem infoStr : (Tryz.prog.info? 9).map (fun i => (i.zero, i.size, i.bytes)) = some (some (str []), 1, 16) := by kernel_rfl
set_option maxRecDepth 100000 in
set_option maxHeartbeats 2000000 in
theorem packIn_any (n : Nat) (t : List UInt8) (hn0 : 1 ≤ n) (hn : n ≤ 4096) (ht : t.length ≤ 8000) (w : World) (hK : Cells w 2 0 (Kt.map U)) (h1 : 2 < w.heap.size) :
    Calls Tryz.prog 40 #[.int .i64 n, str t] w fun e w' => ∃ v, e = .returned (.tuple #[v, .int .i64 0]) ∧ w'.ownsRow w.heap.size 9 1 v (pack n t).length ((pack n t).map str) ∧ Below w.heap.size w w' := by
  have hcn := cntN_pos ht
  have hpl := pack_length n t
  have hsa := secsOf_all n t
  obtain ⟨C, hC⟩ : ∃ C, C = cntN t.length := ⟨_, rfl⟩
  have HSA := Lib.hid hsa; clear hsa
  have HPL := Lib.hid hpl; clear hpl
  have HC := Lib.hid hC; clear hC
  have d1 : ((n : Int) < 1) = False := eq_false (by omega)
  have d1' : (n < 1) = False := eq_false (by omega)
  have d2 : ((4096 : Int) < (n : Int)) = False := eq_false (by omega)
  have d2' : (4096 < n) = False := eq_false (by omega)
  have d3 : ((8000 : Int) < (t.length : Int)) = False := eq_false (by omega)
  have d3' : (8000 < t.length) = False := eq_false (by omega)
  refine (callsIn_wide (n := 4)).1 ?_
  refine callsIn_of_wp_marks Tryz.func40 rfl trivial ?_ rfl
  simp only [Tryz.ntmps40, List.size_toArray, List.length_cons, List.length_nil, Nat.reduceAdd, Nat.reduceSub, Array.replicate_succ, Array.replicate_zero, List.push_toArray, List.append_toArray, List.nil_append, List.cons_append]
  gi_wp2_with (gi_at_call 74; refine (callsIn_wide.2 (parts_any _ _ _)).mono ?_; rintro e w' ⟨rfl, rfl⟩)
  gi_wp2
  obtain ⟨W0, hW0⟩ : ∃ W0, ((w.alloc (.cells #[.slice none 0 0] 22)).alloc (.cells #[.int .i64 n] 3)).alloc (.cells #[str t] 9) = W0 := ⟨_, rfl⟩
  have a1 : Blk W0 w.heap.size [.slice none 0 0] 22 := by rw [← hW0]; exact ((Blk.new w _ _).alloc _).alloc _
  have a2 : Blk W0 (w.heap.size + 1) [.int .i64 n] 3 := by rw [← hW0]; exact (Blk.new_at _ _ _ (by simp)).alloc _
  have a3 : Blk W0 (w.heap.size + 1 + 1) [str t] 9 := by rw [← hW0]; exact Blk.new_at _ _ _ (by simp)
  have a4 : Below w.heap.size w W0 := by rw [← hW0]; exact (((Below.refl _ w).alloc (Nat.le_refl _) _).alloc (by simp) _).alloc (by simp; omega) _
  have a5 : W0.heap.size = w.heap.size + 3 := by rw [← hW0]; simp
  rw [hW0]
  clear hW0 d1 d1' d2 d2' d3 d3'
  obtain ⟨P, hP⟩ : ∃ P, P = w.heap.size := ⟨_, rfl⟩
  obtain ⟨B, hB⟩ : ∃ B, B = W0.heap.size := ⟨_, rfl⟩
  rw [← hP] at a1 a2 a3 a4 a5 h1 ⊢
  have a6 : B = P + 3 := by omega
  have hKW := hK.below a4 h1
  have HP := Lib.hid hP; clear hP
  obtain ⟨Ac, hAc⟩ : ∃ Ac : Nat → List UInt8 → Act, Ac = fun N s => { tmps := #[.int .i64 n, str t, undef, undef, .slice none 0 0, .int .i64 0, .pointer (some ⟨P, 0, none⟩), .pointer (some ⟨N, 0, none⟩), .bool false, .int .i64 n, .bool false, .bool false, .int .i64 n, .bool false, .bool false, .bool false, str t, .int .i64 t.length, .bool false, .int .i64 n, str t, .func (.func 90) #[] #[.pointer (some ⟨P + 1 + 1, 0, none⟩), .pointer (some ⟨P + 1, 0, none⟩)], .agg (s.map byv).toArray, undef, undef, undef, undef, undef, undef], defers := [] } := ⟨_, rfl⟩
  have HAc := Lib.hid hAc; clear hAc
  have hst := parts1_stops 3 (by decide) (P + 1 + 1) (P + 1) n t hn ht W0 (by omega) (by omega) (a3.cell rfl) (a2.cell rfl) hKW (by omega)
  refine wpIn_rangeFunc_ownH rfl (by decide) (gf := 90) (lb := #[.pointer (some ⟨P + 1 + 1, 0, none⟩), .pointer (some ⟨P + 1, 0, none⟩)]) rfl trivial (enters_of Tryz.func90 (by kernel_rfl) rfl)
    hst KpC.trans (fun W l o o' _ h ho _ => KpC.put W l o o' h ho) (Below.refl _ _) (fun _ => rfl)
    (fun pre W => ∃ v, Blk W P [v] 22 ∧ W.ownsRow B 9 1 v (secsOf n t pre).length ((secsOf n t pre).map str) ∧ Below P w W ∧ B ≤ W.heap.size)
    (fun _ _ _ => False) ?hI (fun _ => ownFrom_false) ⟨_, a1, World.ownsRow_nil _ _ _ _, a4, by omega⟩
    (fun x a' W => ∃ N v0, B ≤ N ∧ Blk W N ((sect n t x.1).map byv) 96 ∧ Blk W P [v0] 22 ∧ (∀ k, v0.ownBlock = some k → k ≠ N) ∧ a' = Ac N (sect n t x.1)) ?hAx ?assign ?body ?done ?stop
  case hI =>
    rintro pre W W' row ⟨v, q1, q2, q3, q4⟩ hg hr
    refine ⟨v, q1.kept hg fun r e => (hr r e).2, own_kept q2 hg fun r e => (hr r e).2, ?_, Nat.le_trans q4 hg.size⟩
    exact q3.trans ⟨hg.os, hg.tape, hg.output, hg.size, fun k hk => hg.block k (by omega) (fun e => by have := (hr k e.symm).1; omega)⟩
  case hAx =>
    rintro x a' u W W' row ⟨N, v0, hN, bN, q1, q2, e⟩ hg hr
    exact ⟨N, v0, hN, bN.kept hg fun r e => (hr r e).2, q1.kept hg fun r e => (hr r e).2, q2, e⟩
  case assign =>
    rintro l pre x W K ⟨v, q1, q2, q3, q4⟩ hK2
    refine SqC.wpIn_region_plain (by kernel_rfl) ?_
    go_wp2_with (refine wpList_store_blk (ty := 96) (n := 64) (vs := (sect n t x.1).map byv) (Blk.new _ _ 96) rfl rfl rfl rfl rfl infoSec (by rw [List.length_map, sect_length]) (by simp) (bytes_oneCell _) ?_)
    intro W2 hb ho
    have b2 : Below W.heap.size W W2 := ho.below (alloc_below _ _) (Nat.le_refl _)
    have hb' : Blk W2 W.heap.size ((sect n t x.1).map byv) 96 := by simpa using hb
    unfold wpList
    show K _ _
    rw [hB] at q4
    refine hK2 _ _ (KeepsFrom.of_grownBy (grown_of (Nat.le_refl _) b2) (fun j h => by cases h)) (KpC.below b2 (by
      intro g hg
      simp at hg
      rcases hg with rfl | rfl | rfl <;> omega)) ⟨v, q1.below b2 q1.lt, own_below q2 b2, q3.trans (b2.mono (by omega)), by have := b2.size; omega⟩ ⟨W.heap.size, v, by omega, hb', q1.below b2 q1.lt, (fun k hk e => by have := (q2.lt k hk).2; omega), ?_⟩
    rw [HAc.out]
  case body =>
    rintro l pre x a' W hl0 hrec ⟨v, q1, q2, q3, q4⟩ ⟨N, v0, hN, bN, q5, q6, rfl⟩ hlt
    obtain rfl : v = v0 := by have := blk_same q1 q5; simpa using this
    rw [HAc.out]
    clear q5
    obtain ⟨s, hs⟩ : ∃ s, s = sect n t x.1 := ⟨_, rfl⟩
    have hsl : s.length = 64 := by rw [hs, sect_length]
    have HNX : Hid (secsOf n t (pre ++ [x]) = secsOf n t pre ++ [s]) := Lib.hid (by unfold secsOf; rw [List.map_append, hs]; rfl)
    rw [← hs] at bN ⊢
    have HS := Lib.hid hs; clear hs
    have HSL := Lib.hid hsl; clear hsl
    have hXl : (secsOf n t pre).length = pre.length := by unfold secsOf; rw [List.length_map]
    obtain ⟨X, hX⟩ : ∃ X, X = secsOf n t pre := ⟨_, rfl⟩
    rw [← hX] at hXl HNX q2
    have hXm : X.length < 200 := by omega
    have HX := Lib.hid hX; clear hX hXl
    obtain ⟨sv, cv, rfl, hvb⟩ := own_slice q2
    have hNv : ∀ k, (Value.slice sv X.length cv).ownBlock = some k → B ≤ k ∧ k < W.heap.size ∧ k ≠ N := fun k hk => ⟨(q2.lt k hk).1, (q2.lt k hk).2, q6 k hk⟩
    have HNV := Lib.hid hNv; clear hNv q6 hvb
    have eX : (fun U : World => Blk U P [.slice sv X.length cv] 22 ∧ Blk U N (s.map byv) 96) W.drew := ⟨q1.drew, bN.drew⟩
    haveI : Nonempty (SqC.Come fun U : World => Blk U P [.slice sv X.length cv] 22 ∧ Blk U N (s.map byv) 96) := ⟨⟨_, eX⟩⟩
    gi_wp2
    refine SqC.wpIn_region_sqc 6 [3, 4, 5] (fun U : World => Blk U P [.slice sv X.length cv] 22 ∧ Blk U N (s.map byv) 96) (by kernel_rfl) (by kernel_rfl) (by kernel_rfl) (by kernel_rfl) eX ?_
    have r2 := own_below q2 ((Below.refl W.heap.size W).drew)
    have r3 := q3.drew
    have r4 : KeepsOthers W W.drew := keepsOthers_drewN W 1
    have r5 : W.drew.heap.size = W.heap.size := rfl
    obtain ⟨wd, hwd⟩ : ∃ wd : World, wd = W.drew := ⟨_, rfl⟩
    rw [← hwd] at eX r2 r3 r4 r5 ⊢
    have r6 : Below W.heap.size W wd := by rw [hwd]; exact (Below.refl _ W).drew
    clear hwd
    have cvs : ∀ U : World, Blk U N (s.map byv) 96 → (convert 81 9 (.slice (some ⟨N, 0, none⟩) 64 64)).run Tryz.prog U = .ok (str s) U := fun U hU => by
      refine convB U _ s ?_
      have := sl_blk hU 0 s 64 (by rw [List.drop_zero, List.take_of_length_le (by simp)]) (by rw [HSL.out]; omega)
      rwa [HSL.out] at this ⊢
    have HCV := Lib.hid cvs; clear cvs
    refine SqC.value (.slice sv X.length cv) rfl rfl (by intro U hU; have cx := hU.1.cell (i := 0) rfl; go_simp) ?_
    simp only [Act.put, List.setIfInBounds_toArray, List.set_cons_zero, List.set_cons_succ]
    refine SqC.quiet rfl rfl ?_; go_big_quiet_step (fail); refine wpQuiet_nil ?_
    refine SqC.value (str s) rfl rfl (by intro U hU; exact conv_exec rfl (HCV.out U hU.2)) ?_
    simp only [Act.put, List.setIfInBounds_toArray, List.set_cons_zero, List.set_cons_succ]
    obtain ⟨wb, hwb⟩ : ∃ wb, wb = wd.alloc (.cells #[str s] 9) := ⟨_, rfl⟩
    have t1 : Blk wb P [.slice sv X.length cv] 22 := by rw [hwb]; exact eX.1.alloc _
    have t2 : Blk wb N (s.map byv) 96 := by rw [hwb]; exact eX.2.alloc _
    have t3 : wb.ownsRow B 9 1 (.slice sv X.length cv) X.length (X.map str) := by rw [hwb]; exact own_below r2 (alloc_below _ _)
    have t4 : Below P w wb := by rw [hwb]; exact r3.alloc (by omega) _
    have t5 : KeepsOthers W wb := by rw [hwb]; exact r4.trans (KeepsOthers.alloc _ _)
    have t6 : Below W.heap.size W wb := by rw [hwb]; exact r6.alloc (by omega) _
    have t7 : wb.heap.size = W.heap.size + 1 := by rw [hwb]; simp [r5]
    have t8 : Blk wb wd.heap.size [str s] 9 := by rw [hwb]; exact Blk.new wd #[str s] 9
    have t9 : P + 1 + 1 < W.heap.size := by omega
    have HWB := Lib.hid hwb; clear hwb r2 r3 r4 r5 r6 q1 q2 q3 bN
    have HT1 := Lib.hid t1; clear t1
    have HT2 := Lib.hid t2; clear t2
    have HT8 := Lib.hid t8; clear t8
    have HT7 := Lib.hid t7; clear t7
    refine SqC.effectW rfl rfl ?_
    go_wp2
    rw [← HWB.out]
    refine SqC.here rfl (fun _ => ⟨HT1.out, HT2.out⟩) ?_
    obtain ⟨i, hi1, hi2, hi3, hi4⟩ := info_parts infoStr
    refine SqC.effectW rfl rfl ?_
    refine wpList_append_lies _ rfl _ _ 22 rfl B 9 i (str []) 1 16 hTss hi1 hi2 hi3 hi4 rfl (by decide) _ X.length _ rfl t3 ⟨wd.heap.size, 0, none⟩ 1 1 [str s] rfl rfl (World.news_of_block HT8.out) (by intro u hu; simp at hu; rw [hu]; rfl) (by decide) (by unfold maxLen; omega) (by omega) (by rw [HT7.out]; omega) _ rfl ?_
    intro g cap w9 g1 g2 g3 g4
    have gP : ∀ k, (Value.slice sv X.length cv).ownBlock = some k → k ≠ P ∧ k ≠ N ∧ B ≤ k ∧ k < W.heap.size := fun k hk => by have := HNV.out k hk; exact ⟨by omega, this.2.2, this.1, this.2.1⟩
    have u1 : Blk w9 P [.slice sv X.length cv] 22 := HT1.out.grown g2 (fun e => (gP P e.symm).1 rfl)
    have u2 : Blk w9 N (s.map byv) 96 := HT2.out.grown g2 (fun e => (gP N e.symm).2.1 rfl)
    have u3 : KeepsOthers W w9 := t5.trans (own_keeps t3 g2)
    have u4 : Below P w w9 := grown_below (base := P) t4 (own_weaken t3 (by omega)) g2 (by rw [HT7.out]; omega)
    have u5 : ∀ k, k < B → k < W.heap.size → w9.heap[k]? = W.heap[k]? := fun k hk hk2 => (g2.block k (by rw [HT7.out]; omega) (fun e => by have := (gP k e.symm).2.2.1; omega)).trans (t6.block k hk2)
    have u6 : w9.frozen? ⟨P, 0, none⟩ = false := u1.frozen 0
    have u7 : w9.cell? ⟨P, 0, none⟩ = some (.slice sv X.length cv) := u1.cell rfl
    have u8 : wb.heap.size ≤ w9.heap.size := g2.size
    rw [HT7.out] at u8
    have u9 : g ≠ P := by
      rcases g3 with g3 | g3
      · exact (gP g g3).1
      · rw [HT7.out] at g3; omega
    refine SqC.here rfl (fun _ => ⟨u1, u2⟩) ?_
    simp only [Act.put, List.setIfInBounds_toArray, List.set_cons_zero, List.set_cons_succ]
    have HU1 := Lib.hid u1; clear u1 u2 HT1 HT2 HT8 t4 t3 t5 t6 HT7
    refine SqC.effectW rfl rfl ?_
    go_wp2
    refine SqC.here rfl (by intro h; first | exact h.elim | exact absurd rfl h) (SqC.nil ?_)
    refine ⟨(u3.trans (KeepsOthers.setCell _ _ _)).from _, ?_, .slice (some ⟨g, 0, none⟩) (X.length + 1) cap, HU1.out.set 0 _, ?_, below_set u4 (by have := HP.out; omega) (Nat.le_refl _) _ _, ?_⟩
    · refine KpC.trans (B := w9) ?_ (KpC.set _ _ _ (by simp; omega))
      intro k hk i v hv
      refine (World.cell?_of_block (w := W) (u5 k ?_ ?_)).trans hv
      · simp at hk; rcases hk with rfl | rfl | rfl <;> omega
      · simp at hk; rcases hk with rfl | rfl | rfl <;> omega
    · rw [HNX.out, List.length_append, List.map_append]
      exact own_set g1 (fun k hk => by
        have e1 : some g = some k := hk
        injection e1 with e1
        subst e1
        exact u9)
    · rw [World.size_setCell]; omega
  case done =>
    rintro D ys W hD rfl ⟨v, q1, q2, q3, q4⟩ hK2
    rw [HSA.out] at q2
    have cx : W.cell? ⟨P, 0, none⟩ = some v := q1.cell rfl
    obtain ⟨sv, cv, rfl, hvb⟩ := own_slice q2
    have HQ2 := Lib.hid q2; clear q2
    have HQ3 := Lib.hid q3; clear q3
    gi_wp2
    refine ⟨by simp, .inl ⟨_, _, rfl, run_takeDeferred hK2, ?_⟩⟩
    refine ⟨.tuple #[.slice sv (pack n t).length cv, .int .i64 0], by simp [results, Tryz.results40, go_sem], ?_⟩
    refine ⟨_, rfl, own_weaken (own_put _ HQ2.out hK2 rfl) (by have := HP.out; omega), ?_⟩
    rw [← HP.out]
    exact HQ3.out.trans (belowK_b (w := W0) (by omega) W D _ _ (by omega) hK2 rfl rfl)
  case stop =>
    rintro D c pre W _ _ h _
    exact h.elim
theorem pack_any (n : Int) (t : List UInt8) (_ht0 : t.length ≤ maxLen) (w : World) (hK : Cells w 2 0 (Kt.map U)) (h1 : 2 < w.heap.size) :
    Calls Tryz.prog 40 #[.int .i64 n, str t] w fun e w' => ∃ v, e = .returned (.tuple #[v, .int .i64 (packE n t).2]) ∧ w'.ownsRow w.heap.size 9 1 v (packE n t).1.length ((packE n t).1.map str) ∧ Below w.heap.size w w' := by
  by_cases hn : n < 1 ∨ 4096 < n
  · have e : packE n t = ([], 1) := by unfold packE; rw [if_pos hn]
    rw [e]
    clear e
    rcases hn with hn | hn
    · have d1 : decide (n < 1) = true := decide_eq_true hn
      have d2 : (n < 1) = True := eq_true hn
      go_enter Tryz.func40, Tryz.ntmps40
      go_wp2
      go_ret2
      exact ⟨_, rfl, World.ownsRow_nil _ _ _ _, Below.refl _ _⟩
    · have d1 : decide (n < 1) = false := decide_eq_false (by omega)
      have d2 : (n < 1) = False := eq_false (by omega)
      have d3 : decide (4096 < n) = true := decide_eq_true hn
      have d4 : (4096 < n) = True := eq_true hn
      go_enter Tryz.func40, Tryz.ntmps40
      go_wp2
      go_ret2
      exact ⟨_, rfl, World.ownsRow_nil _ _ _ _, Below.refl _ _⟩
  · by_cases ht : 8000 < t.length
    · have e : packE n t = ([], 4) := by unfold packE; rw [if_neg hn, if_pos ht]
      rw [e]
      clear e
      have d1 : decide (n < 1) = false := decide_eq_false (by omega)
      have d2 : (n < 1) = False := eq_false (by omega)
      have d3 : decide (4096 < n) = false := decide_eq_false (by omega)
      have d4 : (4096 < n) = False := eq_false (by omega)
      have d5 : ((8000 : Int) < (t.length : Int)) = True := eq_true (by omega)
      have d6 : (8000 < t.length) = True := eq_true (by omega)
      clear hn ht
      go_enter Tryz.func40, Tryz.ntmps40
      go_wp2
      go_ret2
      exact ⟨_, rfl, World.ownsRow_nil _ _ _ _, Below.refl _ _⟩
    · obtain ⟨m, rfl⟩ : ∃ m : Nat, n = m := ⟨n.toNat, by omega⟩
      have e : packE (m : Int) t = (pack m t, 0) := by unfold packE; rw [if_neg hn, if_neg ht]; rfl
      rw [e]
      exact packIn_any m t (by omega) (by omega) (by omega) w hK h1
end Go.Proofs.YtbmnbdkbgpajeaaGreatDoor
end
