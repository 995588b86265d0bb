/- The walk over the law's own check of the examples. -/
import Derived.Test.YtcdgpkhfflehjaaDoorA14
import Derived.Stop.BytesEq
import Derived.Lib.SlBytesConst
import Derived.Lib.SmallJoins
namespace Go.Proofs.YtcdgpkhfflehjaaDoor
open Go.RowKit Go.Sha Go.Own
attribute [local go_sem high] op_add op_xor op_and op_or op_not op_shl op_shr op_shl_lit op_shr_lit byte_mod op_str_eql op_str_neq
attribute [local go_sem] setCell_twice str_size
theorem size5 (w : World) : (sizeOf 5).run Tryd.prog w = .ok 1 w := by kernel_rfl
theorem eql24 (w : World) (a b : List UInt8) (ha : a.length = 32) (hb : b.length = 32) : (binOp .eql 24 (.agg (a.map byv).toArray) (.agg (b.map byv).toArray)).run Tryd.prog w = .ok (.bool (a == b)) w :=
  run_eql_bytes w 24 5 32 Tryd.underlying24 Tryd.underlying5 size5 a b ha hb
theorem eql44 (w : World) (a b : List UInt8) (ha : a.length = 16) (hb : b.length = 16) : (binOp .eql 44 (.agg (a.map byv).toArray) (.agg (b.map byv).toArray)).run Tryd.prog w = .ok (.bool (a == b)) w :=
  run_eql_bytes w 44 5 16 Tryd.underlying44 Tryd.underlying5 size5 a b ha hb
theorem hex1 : hexF (sha [97, 98, 99]) = [98, 97, 55, 56, 49, 54, 98, 102, 56, 102, 48, 49, 99, 102, 101, 97, 52, 49, 52, 49, 52, 48, 100, 101, 53, 100, 97, 101, 50, 50, 50, 51, 98, 48, 48, 51, 54, 49, 97, 51, 57, 54, 49, 55, 55, 97, 57, 99, 98, 52, 49, 48, 102, 102, 54, 49, 102, 50, 48, 48, 49, 53, 97, 100] := by decide +kernel
theorem hex2 : hexF (macF [74, 101, 102, 101] [119, 104, 97, 116, 32, 100, 111, 32, 121, 97, 32, 119, 97, 110, 116, 32, 102, 111, 114, 32, 110, 111, 116, 104, 105, 110, 103, 63]) = [53, 98, 100, 99, 99, 49, 52, 54, 98, 102, 54, 48, 55, 53, 52, 101, 54, 97, 48, 52, 50, 52, 50, 54, 48, 56, 57, 53, 55, 53, 99, 55, 53, 97, 48, 48, 51, 102, 48, 56, 57, 100, 50, 55, 51, 57, 56, 51, 57, 100, 101, 99, 53, 56, 98, 57, 54, 52, 101, 99, 51, 56, 52, 51] := by decide +kernel
theorem hex3 : hexF (ofF 8 [[97], []]) = [51, 54, 99, 100, 53, 48, 56, 53, 48, 51, 50, 57, 102, 56, 56, 52, 48, 54, 101, 51, 49, 98, 98, 56, 97, 55, 100, 56, 102, 98, 54, 50] := by decide +kernel
/-- The load of an array of bytes, as a word of its own: so the walk takes it whole. -/
noncomputable def ldS24 (x : Value) : Sem Value := Instr.loadAt 24 x
theorem ldS24_eq (x : Value) : Instr.loadAt 24 x = ldS24 x := rfl
theorem ld24_cells {w : World} {g : Nat} {l : List UInt8} (h : Cells w g 0 (l.map byv)) (hl : l.length = 32) : (ldS24 (.pointer (some ⟨g, 0, none⟩))).run Tryd.prog w = .ok (.agg (l.map byv).toArray) w := by
  unfold ldS24
  simp only [Instr.loadAt, Instr.sureAddr, Sem.run_bind, Sem.run_pure, Result.andThen_ok, run_loadVar_cells h Tryd.underlying24 rfl (by kernel_rfl) (show (l.map byv).length = 32 by simpa using hl)]
noncomputable def ldS44 (x : Value) : Sem Value := Instr.loadAt 44 x
theorem ldS44_eq (x : Value) : Instr.loadAt 44 x = ldS44 x := rfl
theorem ld44_cells {w : World} {g : Nat} {l : List UInt8} (h : Cells w g 0 (l.map byv)) (hl : l.length = 16) : (ldS44 (.pointer (some ⟨g, 0, none⟩))).run Tryd.prog w = .ok (.agg (l.map byv).toArray) w := by
  unfold ldS44
  simp only [Instr.loadAt, Instr.sureAddr, Sem.run_bind, Sem.run_pure, Result.andThen_ok, run_loadVar_cells h Tryd.underlying44 rfl (by kernel_rfl) (show (l.map byv).length = 16 by simpa using hl)]
attribute [local go_sem ↓ high] ldS24_eq ldS44_eq
noncomputable def eqS24 (x y : Value) : Sem Value := binOp .eql 24 x y
theorem eqS24_eq (x y : Value) : binOp .eql 24 x y = eqS24 x y := rfl
theorem eqS24_run (w : World) (a b : List UInt8) (ha : a.length = 32) (hb : b.length = 32) : (eqS24 (.agg (a.map byv).toArray) (.agg (b.map byv).toArray)).run Tryd.prog w = .ok (.bool (a == b)) w := eql24 w a b ha hb
theorem guard24 (w : World) (op : BinOp) (x y : Operand) (xs ys : Array Value) : (eqGuard op 24 x y (.agg xs) (.agg ys)).run Tryd.prog w = .ok () w := run_eqGuard_agg w op 24 x y xs ys (by kernel_rfl)
noncomputable def egS24 (op : BinOp) (x y : Operand) (a b : Value) : Sem Unit := eqGuard op 24 x y a b
theorem egS24_eq (op : BinOp) (x y : Operand) (a b : Value) : eqGuard op 24 x y a b = egS24 op x y a b := rfl
theorem egS24_run (w : World) (op : BinOp) (x y : Operand) (xs ys : Array Value) : (egS24 op x y (.agg xs) (.agg ys)).run Tryd.prog w = .ok () w := guard24 w op x y xs ys
attribute [local go_sem ↓ high] eqS24_eq egS24_eq
attribute [local go_sem] egS24_run
theorem wpList_eq24_g {ops : Array Oper} {rest : List Oper} {o : Oper} {a : Act} {w : World} {Q : Exit → Act → World → Prop} {x y : Operand} {l r : List UInt8} {ty : TypeId}
    (hw : Region.wanted o (yielded ops a.tmps) = true) (ho : o.op = .binOp .eql 24 x y ty) (hx : a.eval x = .agg (l.map byv).toArray) (hy : a.eval y = .agg (r.map byv).toArray) (hl : l.length = 32) (hr : r.length = 32)
    (h : wpList Tryd.prog ops Q rest (a.put o.dst (.bool (l == r))) w) : wpList Tryd.prog ops Q (o :: rest) a w :=
  wpList_step fun _ hK => by
    rw [if_pos hw]
    unfold Oper.wp execOp
    simp only [ho, hx, hy, Sem.run_bind, Sem.run_pure, Result.andThen_ok, guard24, eql24 w l r hl hr]
    exact hK _ _ h
theorem eqTrue (w : World) : Calls Tryd.prog 24 #[.string ⟨#[97, 98]⟩, .string ⟨#[97, 98]⟩] w fun e w' => e = .returned (.bool true) ∧ ∃ n, w' = w.drewN n := equal_any [97, 98] [97, 98] w (by simp) (by simp)
theorem eqFalse (w : World) : Calls Tryd.prog 24 #[.string ⟨#[97, 98]⟩, .string ⟨#[97, 99]⟩] w fun e w' => e = .returned (.bool false) ∧ ∃ n, w' = w.drewN n := equal_any [97, 98] [97, 99] w (by simp) (by simp)
theorem eqFalse2 (w : World) : Calls Tryd.prog 24 #[.string ⟨#[]⟩, .string ⟨#[97]⟩] w fun e w' => e = .returned (.bool false) ∧ ∃ n, w' = w.drewN n := equal_any [] [97] w (by simp) (by simp)
def jefe : List UInt8 := [74, 101, 102, 101]
def what : List UInt8 := [119, 104, 97, 116, 32, 100, 111, 32, 121, 97, 32, 119, 97, 110, 116, 32, 102, 111, 114, 32, 110, 111, 116, 104, 105, 110, 103, 63]
theorem macJefe (M : List UInt8) (hM : M = macF jefe what) (w : World) (hK : Cells w 1 0 (Kt.map U)) (h1 : 1 < w.heap.size) : Calls Tryd.prog 18 #[.string ⟨#[74, 101, 102, 101]⟩, .string ⟨#[119, 104, 97, 116, 32, 100, 111, 32, 121, 97, 32, 119, 97, 110, 116, 32, 102, 111, 114, 32, 110, 111, 116, 104, 105, 110, 103, 63]⟩] w fun e w' => e = .returned (str M) ∧ Below w.heap.size w w' := by
  have h := mac_any jefe what (by decide) (by decide) w hK h1
  rw [← hM] at h
  exact h
set_option maxHeartbeats 400000 in
set_option maxRecDepth 100000 in
theorem sanity_any (w : World) (hK : Cells w 1 0 (Kt.map U)) (h1 : 1 < w.heap.size) : Calls Tryd.prog 10 #[] w fun e w' => e = .returned (.bool true) ∧ Below w.heap.size w w' := by
  have HK := Lib.hid hK; clear hK
  obtain ⟨S1, HS1⟩ : ∃ S1, Hid (S1 = sha [97, 98, 99]) := ⟨_, rfl⟩
  obtain ⟨M1, HM1⟩ : ∃ M1, Hid (M1 = macF jefe what) := ⟨_, rfl⟩
  obtain ⟨O1, HO1⟩ : ∃ O1, Hid (O1 = ofF 8 [[97], []]) := ⟨_, rfl⟩
  have l1 : S1.length = 32 := by rw [HS1.out, sha_length]
  have l2 : M1.length = 32 := by rw [HM1.out, macF, sha_length]
  have l3 : O1.length = 16 := by rw [HO1.out, ofF, List.length_take, sha_length]; rfl
  have e1 : hexF S1 = [98, 97, 55, 56, 49, 54, 98, 102, 56, 102, 48, 49, 99, 102, 101, 97, 52, 49, 52, 49, 52, 48, 100, 101, 53, 100, 97, 101, 50, 50, 50, 51, 98, 48, 48, 51, 54, 49, 97, 51, 57, 54, 49, 55, 55, 97, 57, 99, 98, 52, 49, 48, 102, 102, 54, 49, 102, 50, 48, 48, 49, 53, 97, 100] := by rw [HS1.out]; exact hex1
  have q1 : (hexF S1 == [98, 97, 55, 56, 49, 54, 98, 102, 56, 102, 48, 49, 99, 102, 101, 97, 52, 49, 52, 49, 52, 48, 100, 101, 53, 100, 97, 101, 50, 50, 50, 51, 98, 48, 48, 51, 54, 49, 97, 51, 57, 54, 49, 55, 55, 97, 57, 99, 98, 52, 49, 48, 102, 102, 54, 49, 102, 50, 48, 48, 49, 53, 97, 100]) = true := by rw [e1]; exact beq_self_eq_true _
  clear e1
  have e2 : hexF M1 = [53, 98, 100, 99, 99, 49, 52, 54, 98, 102, 54, 48, 55, 53, 52, 101, 54, 97, 48, 52, 50, 52, 50, 54, 48, 56, 57, 53, 55, 53, 99, 55, 53, 97, 48, 48, 51, 102, 48, 56, 57, 100, 50, 55, 51, 57, 56, 51, 57, 100, 101, 99, 53, 56, 98, 57, 54, 52, 101, 99, 51, 56, 52, 51] := by rw [HM1.out]; exact hex2
  have q2 : (hexF M1 == [53, 98, 100, 99, 99, 49, 52, 54, 98, 102, 54, 48, 55, 53, 52, 101, 54, 97, 48, 52, 50, 52, 50, 54, 48, 56, 57, 53, 55, 53, 99, 55, 53, 97, 48, 48, 51, 102, 48, 56, 57, 100, 50, 55, 51, 57, 56, 51, 57, 100, 101, 99, 53, 56, 98, 57, 54, 52, 101, 99, 51, 56, 52, 51]) = true := by rw [e2]; exact beq_self_eq_true _
  clear e2
  have e3 : hexF O1 = [51, 54, 99, 100, 53, 48, 56, 53, 48, 51, 50, 57, 102, 56, 56, 52, 48, 54, 101, 51, 49, 98, 98, 56, 97, 55, 100, 56, 102, 98, 54, 50] := by rw [HO1.out]; exact hex3
  have q3 : (hexF O1 == [51, 54, 99, 100, 53, 48, 56, 53, 48, 51, 50, 57, 102, 56, 56, 52, 48, 54, 101, 51, 49, 98, 98, 56, 97, 55, 100, 56, 102, 98, 54, 50]) = true := by rw [e3]; exact beq_self_eq_true _
  clear e3
  have hcb := Lib.run_convert_bytes_const w 22 5 #[.int .u8 97, .int .u8 98, .int .u8 99] 3 3 Tryd.underlying22 Tryd.underlying5
  have hS : Sl (w.alloc (.cells #[.int .u8 97, .int .u8 98, .int .u8 99] 5 (3, 4))) 1 (.slice (some ⟨w.heap.size, 0, none⟩) 3 3) 3 [.int .u8 97, .int .u8 98, .int .u8 99] := ⟨rfl, .inr ⟨_, 0, 3, rfl, Nat.le_refl _, by decide, fun i u hi => by rw [World.cell?_alloc_mark w, Nat.zero_add]; simpa using hi, by simp⟩⟩
  have hla : (S1.map byv).length = 32 := by simp [l1]
  have hq := fun W => eqS24_run W S1 S1 l1 l1
  have hKw : ∀ W, Below w.heap.size w W → Cells W 1 0 (Kt.map U) ∧ 1 < W.heap.size := fun W hb => ⟨HK.out.below hb h1, Nat.lt_of_lt_of_le h1 hb.size⟩
  have hbA : Below w.heap.size w (w.alloc (.cells #[.int .u8 97, .int .u8 98, .int .u8 99] 5 (3, 4))) := (Below.refl _ _).alloc (Nat.le_refl _) _
  go_enter Tryd.func10, Tryd.ntmps10
  go_wp2_with (first | (refine wpList_store_blk (ty := 24) (n := 32) (vs := S1.map byv) (Blk.new _ _ 24) rfl rfl rfl rfl rfl (by kernel_rfl) hla (by simp) (bytes_oneCell _) ?_) | (go_at_call 11; refine (hsum_any [97, 98, 99] _ 3 _ hS (by simp) (hKw _ hbA).1 (hKw _ hbA).2).mono ?_; rintro e w1 ⟨rfl, hb1⟩; rw [← HS1.out]))
  intro w2 hb2 ho2
  have hz1 := hb1.size
  simp at hz1
  have hB1 : Blk w2 w1.heap.size (S1.map byv) 24 := hb2
  have hbw2 : Below w.heap.size w w2 := ho2.below ((hbA.trans (hb1.mono (by simp))).alloc (by omega) _) (by omega)
  clear hb2 ho2 hS
  go_wp2_with (go_at_call 14; refine (begin_any w2).mono ?_; rintro e w3 ⟨cs1, rfl, hs1, hb3⟩)
  have hbw3 := hbw2.trans (hb3.mono hbw2.size)
  have hz3 := hb3.size
  go_wp2_with (first | (refine wpList_store_blk (ty := 24) (n := 32) (vs := S1.map byv) (Blk.new _ _ 24) rfl rfl rfl rfl rfl (by kernel_rfl) hla (by simp) (bytes_oneCell _) ?_) | (go_at_call 15; refine (add_any [97] [98, 99] cs2 hs2 (by simp) w4 (hKw _ hbw4).1 (hKw _ hbw4).2).mono ?_; rintro e w5 ⟨cs3, rfl, hs3, hb5⟩; have hbw5 := hbw4.trans (hb5.mono hbw4.size); have hz5 := hb5.size) | (go_at_call 15; refine (add_any [] [97] cs1 hs1 (by simp) w3 (hKw _ hbw3).1 (hKw _ hbw3).2).mono ?_; rintro e w4 ⟨cs2, rfl, hs2, hb4⟩; have hbw4 := hbw3.trans (hb4.mono hbw3.size); have hz4 := hb4.size) | (go_at_call 17; refine (ssum_any [97, 98, 99] cs3 hs3 (by simp) w5 (hKw _ hbw5).1 (hKw _ hbw5).2).mono ?_; rintro e w6 ⟨rfl, hb6⟩; rw [← HS1.out]; have hbw6 := hbw5.trans (hb6.mono hbw5.size); have hz6 := hb6.size))
  intro w7 hb7 ho7
  have hB2 : Blk w7 w6.heap.size (S1.map byv) 24 := hb7
  have hlt1 := hB1.lt
  have hB1' : Blk w7 w1.heap.size (S1.map byv) 24 := ho7.blk (by omega) (((((hB1.below hb3 hlt1).below hb4 (by omega)).below hb5 (by omega)).below hb6 (by omega)).alloc _)
  have hbw7 : Below w.heap.size w w7 := ho7.below (hbw6.alloc hbw6.size _) hbw6.size
  clear hb7 ho7 hB1 hb3 hb4 hb5 hb6 hbw3 hbw4 hbw5 hbw6 hs1 hs2 hs3
  have hS7 := sl_new w7 #[str [97], str []] 9 2 rfl (by decide)
  have hb7A : Below w.heap.size w (w7.alloc (.cells #[str [97], str []] 9)) := hbw7.alloc hbw7.size _
  have hlo : (O1.map byv).length = 16 := by simp [l3]
  have hlt1 := hB1'.lt
  have hlt2 := hB2.lt
  go_wp2_with (first | (refine wpList_store_blk (ty := 44) (n := 16) (vs := O1.map byv) (Blk.new _ _ 44) rfl rfl rfl rfl rfl (by kernel_rfl) hlo (by simp) (bytes_oneCell _) ?_) | (go_at_call 21; refine (of_any 8 [[97], []] (by simp) (by simp) _ _ hS7 (hKw _ hb7A).1 (hKw _ hb7A).2).mono ?_; rintro e w8 ⟨rfl, hb8⟩; rw [← HO1.out]))
  intro w9 hb9 ho9
  have hz8 := hb8.size
  simp at hz8
  have hB3 : Blk w9 w8.heap.size (O1.map byv) 44 := hb9
  have hB1 : Blk w9 w1.heap.size (S1.map byv) 24 := ho9.blk (by omega) (((hB1'.alloc _).below hb8 (by simp; omega)).alloc _)
  have hB2' : Blk w9 w6.heap.size (S1.map byv) 24 := ho9.blk (by omega) (((hB2.alloc _).below hb8 (by simp; omega)).alloc _)
  have hbw8 := hb7A.trans (hb8.mono hb7A.size)
  have hbw9 : Below w.heap.size w w9 := ho9.below (hbw8.alloc hbw8.size _) hbw8.size
  clear hb9 ho9 hB1' hB2 hS7 hb7A hb8
  have hlt1 := hB1.lt
  have hlt2 := hB2'.lt
  have hlt3 := hB3.lt
  go_upto_region 5 with (go_at_call 18; refine (macJefe M1 HM1.out _ (hKw _ hbw9).1 (hKw _ hbw9).2).mono ?_; rintro e w10 ⟨rfl, hb10⟩)
  go_upto_region 6 with (go_at_call 24; refine (eqTrue _).mono ?_; rintro e wx ⟨rfl, n1, rfl⟩)
  clear hcb hbA HS1 HM1 HO1 HK hKw
  go_step
  go_step
  go_step
  refine (eqFalse _).mono ?_
  rintro e wx ⟨rfl, n2, rfl⟩
  go_upto_region 7 with (go_at_call 24; refine (eqFalse2 _).mono ?_; rintro e wx ⟨rfl, n3, rfl⟩)
  have hC1 : Cells (w10.drewN (n1 + n2 + n3)) w1.heap.size 0 (S1.map byv) := (((hB1.below hb10 hlt1).cells0).drewN (n1 + n2 + n3))
  have hs10 := hb10.size
  have hC2 : Cells (w10.drewN (n1 + n2 + n3)) w6.heap.size 0 (S1.map byv) := (((hB2'.below hb10 hlt2).cells0).drewN (n1 + n2 + n3))
  have hC3 : Cells (w10.drewN (n1 + n2 + n3)) w8.heap.size 0 (O1.map byv) := (((hB3.below hb10 hlt3).cells0).drewN (n1 + n2 + n3))
  have hbz : Below w.heap.size w (w10.drewN (n1 + n2 + n3)) := below_drewN (hbw9.trans (hb10.mono hbw9.size)) (n1 + n2 + n3)
  clear hB1 hB2' hB3 hb10 hbw2 hbw7 hbw8 hbw9
  obtain ⟨B, hB⟩ : ∃ B, B = w10.heap.size := ⟨_, rfl⟩
  have hc1 : w1.heap.size < B := by omega
  have hc2 : w6.heap.size < B := by omega
  have hc3 : w8.heap.size < B := by omega
  have L1 := ld24_cells hC1 l1
  have hx1 : w1.heap.size < (w10.drewN (n1 + n2 + n3)).heap.size := by rw [hB] at hc1; exact hc1
  have hx2 : w6.heap.size < (w10.drewN (n1 + n2 + n3)).heap.size := by rw [hB] at hc2; exact hc2
  have hx3 : w8.heap.size < (w10.drewN (n1 + n2 + n3)).heap.size := by rw [hB] at hc3; exact hc3
  go_wp2_with (first | (go_at_call 20; refine (bytes32_any S1 l1 _).mono ?_; rintro e w11 ⟨rfl, hb11⟩) | (go_at_call 25; refine (hex_any S1 (by rw [l1]; omega) _).mono ?_; rintro e w12 ⟨rfl, hb12⟩; have hD1 := ld24_cells ((hC1.below hb11 hx1).below hb12 (Nat.lt_of_lt_of_le hx1 hb11.size)) l1; have hC2b := (hC2.below hb11 hx2).below hb12 (Nat.lt_of_lt_of_le hx2 hb11.size); have hC3b := (hC3.below hb11 hx3).below hb12 (Nat.lt_of_lt_of_le hx3 hb11.size)) | (go_at_call 25; refine (hex_any M1 (by rw [l2]; omega) _).mono ?_; rintro e w13 ⟨rfl, hb13⟩; have hD3 := ld44_cells (hC3b.below hb13 (Nat.lt_of_lt_of_le (Nat.lt_of_lt_of_le hx3 hb11.size) hb12.size)) l3) | (go_at_call 26; refine (text_any O1 l3 _).mono ?_; rintro e w14 ⟨rfl, hb14⟩) | (go_at_call 25; refine (hex_any O1 (by rw [l3]; omega) _).mono ?_; rintro e w15 ⟨rfl, hb15⟩))
  have hD2 := ld24_cells hC2b l1
  simp only [hD2, Result.andThen_ok]
  rename_i aK
  refine aK _ _ ?_
  refine wpList_eq24_g rfl rfl rfl rfl l1 l1 ?_
  rw [beq_self_eq_true]
  have hbfin : Below w.heap.size w w12 := (hbz.trans (hb11.mono hbz.size)).trans (hb12.mono (Nat.le_trans hbz.size hb11.size))
  clear hq
  go_wp2_with (first | (go_at_call 25; refine (hex_any M1 (by rw [l2]; omega) _).mono ?_; rintro e w13 ⟨rfl, hb13⟩))
  have hD3 := ld44_cells (hC3b.below hb13 (Nat.lt_of_lt_of_le (Nat.lt_of_lt_of_le hx3 hb11.size) hb12.size)) l3
  simp only [hD3, Result.andThen_ok]
  rename_i aK2
  refine aK2 _ _ ?_
  go_wp2_with (first | (go_at_call 26; refine (text_any O1 l3 _).mono ?_; rintro e w14 ⟨rfl, hb14⟩) | (go_at_call 25; refine (hex_any O1 (by rw [l3]; omega) _).mono ?_; rintro e w15 ⟨rfl, hb15⟩))
  go_ret
  exact ⟨rfl, ((hbfin.trans (hb13.mono hbfin.size)).trans (hb14.mono (Nat.le_trans hbfin.size hb13.size))).trans (hb15.mono (Nat.le_trans (Nat.le_trans hbfin.size hb13.size) hb14.size))⟩
end Go.Proofs.YtcdgpkhfflehjaaDoor
