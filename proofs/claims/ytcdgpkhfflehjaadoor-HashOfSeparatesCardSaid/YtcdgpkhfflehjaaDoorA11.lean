/- The walks over wire.Int and wire.Bytes. -/
import Derived.Test.YtcdgpkhfflehjaaDoorA10
import Derived.WalkMore
namespace Go.Proofs.YtcdgpkhfflehjaaDoor
open Go.RowKit Go.Sha Go.Own
attribute [local go_sem high] op_add op_xor op_and op_or op_not op_shl op_shr op_shl_lit op_shr_lit byte_mod op_str_eql op_str_neq
attribute [local go_sem] setCell_twice str_size
theorem op_shr64 (t : TypeId) (a s : Nat) (yk : IntKind) : binOp .shr t (.int .u64 (a : Int)) (.int yk (s : Int)) = pure (.int .u64 ((a / 2 ^ (min s 64) : Nat) : Int)) := by
  have e : ((a : Int).fdiv (2 ^ (min s 64))) = ((a / 2 ^ (min s 64) : Nat) : Int) := by
    rw [Int.fdiv_eq_ediv_of_nonneg _ (by apply Int.le_of_lt; exact Int.pow_pos (by decide)), Int.natCast_ediv, Int.natCast_pow]; rfl
  rw [← e]
  simp [binOp, Op.shift, IntKind.bits]
  intro h; omega
theorem shr_zero (n s : Nat) (h : n < 2 ^ min s 64) : binOp .shr 32 (.int .u64 (n : Int)) (.int .i64 (s : Int)) = pure (.int .u64 0) := by
  rw [op_shr64, Nat.div_eq_of_lt h]; rfl
theorem u8_xor0 (x : UInt8) : bits .xor .u8 (x.toNat : Int) 0 = (x.toNat : Int) := by
  have := u8_xor_nat x.toNat 0 x.toNat_lt (by decide)
  simpa using this
theorem int0_any (w : World) : Calls Tryd.prog 38 #[.int .i64 0] w fun e w' => ∃ v, e = .returned v ∧ w'.ownsRow w.heap.size 5 1 v 1 ([128].map byv) ∧ Below w.heap.size w w' := by
  have h56 : binOp .shr 32 (.int .u64 0) (.int .i64 56) = pure (.int .u64 0) := shr_zero 0 56 (by decide)
  have h48 : binOp .shr 32 (.int .u64 0) (.int .i64 48) = pure (.int .u64 0) := shr_zero 0 48 (by decide)
  have h40 : binOp .shr 32 (.int .u64 0) (.int .i64 40) = pure (.int .u64 0) := shr_zero 0 40 (by decide)
  have h32 : binOp .shr 32 (.int .u64 0) (.int .i64 32) = pure (.int .u64 0) := shr_zero 0 32 (by decide)
  have h24 : binOp .shr 32 (.int .u64 0) (.int .i64 24) = pure (.int .u64 0) := shr_zero 0 24 (by decide)
  have h16 : binOp .shr 32 (.int .u64 0) (.int .i64 16) = pure (.int .u64 0) := shr_zero 0 16 (by decide)
  have h8 : binOp .shr 32 (.int .u64 0) (.int .i64 8) = pure (.int .u64 0) := shr_zero 0 8 (by decide)
  have h0 : binOp .shr 32 (.int .u64 0) (.int .i64 0) = pure (.int .u64 0) := shr_zero 0 0 (by decide)
  go_enter Tryd.func38, Tryd.ntmps38
  go_wp2
  go_step3
  go_wp2
  go_step3
  go_wp2
  refine wp_loop_rounds 9 ?_
  rw [rounds_succ]; go_wp2
  rw [rounds_succ]; go_wp2
  rw [rounds_succ]; go_wp2
  rw [rounds_succ]; go_wp2
  rw [rounds_succ]; go_wp2
  rw [rounds_succ]; go_wp2
  rw [rounds_succ]; go_wp2
  rw [rounds_succ]; go_wp2
  rw [rounds_succ]; go_wp2
  refine wp_loop_rounds 1 ?_
  rw [rounds_succ]; go_wp2
  rw [Exit.noGoto_ret]
  go_ret
  exact ⟨_, rfl, own_new _ _ _ 1 _ rfl (by decide) (Nat.le_refl _), (Below.refl _ _).alloc (Nat.le_refl _) _⟩
theorem int1_any (n : Nat) (x : UInt8) (hn : n = x.toNat) (hx : 0 < n) (w : World) :
    Calls Tryd.prog 38 #[.int .i64 (n : Int)] w fun e w' => ∃ v, e = .returned v ∧ w'.ownsRow w.heap.size 5 1 v 2 ([129, x].map byv) ∧ Below w.heap.size w w' := by
  have hl := x.toNat_lt
  have hw : IntKind.u64.wrap (n : Int) = n := IntWalk.u64_in _ (by omega)
  have h56 : binOp .shr 32 (.int .u64 (n : Int)) (.int .i64 56) = pure (.int .u64 0) := shr_zero n 56 (by simp; omega)
  have h48 : binOp .shr 32 (.int .u64 (n : Int)) (.int .i64 48) = pure (.int .u64 0) := shr_zero n 48 (by simp; omega)
  have h40 : binOp .shr 32 (.int .u64 (n : Int)) (.int .i64 40) = pure (.int .u64 0) := shr_zero n 40 (by simp; omega)
  have h32 : binOp .shr 32 (.int .u64 (n : Int)) (.int .i64 32) = pure (.int .u64 0) := shr_zero n 32 (by simp; omega)
  have h24 : binOp .shr 32 (.int .u64 (n : Int)) (.int .i64 24) = pure (.int .u64 0) := shr_zero n 24 (by simp; omega)
  have h16 : binOp .shr 32 (.int .u64 (n : Int)) (.int .i64 16) = pure (.int .u64 0) := shr_zero n 16 (by simp; omega)
  have h8 : binOp .shr 32 (.int .u64 (n : Int)) (.int .i64 8) = pure (.int .u64 0) := shr_zero n 8 (by simp; omega)
  have h0 : binOp .shr 32 (.int .u64 (n : Int)) (.int .i64 0) = pure (.int .u64 (x.toNat : Int)) := by rw [show (0 : Int) = ((0 : Nat) : Int) from rfl, op_shr64, hn]; simp
  have hxx := u8_xor0 x
  have hg0 : ((0 : Int) < (x.toNat : Int)) := by omega
  go_enter Tryd.func38, Tryd.ntmps38
  go_wp2
  go_step3
  go_wp2
  go_step3
  go_wp2
  refine wp_loop_rounds 8 ?_
  rw [rounds_succ]; go_wp2
  rw [rounds_succ]; go_wp2
  rw [rounds_succ]; go_wp2
  rw [rounds_succ]; go_wp2
  rw [rounds_succ]; go_wp2
  rw [rounds_succ]; go_wp2
  rw [rounds_succ]; go_wp2
  rw [rounds_succ]; go_wp2
  refine wp_loop_rounds 2 ?_
  rw [rounds_succ]
  go_wp2_with (refine wpList_append_sl rfl _ _ 22 rfl w.heap.size 5 (.int .u8 0) 1 1 Tryd.underlying22 info5 rfl (by decide) _ 1 _ rfl ((own_new w #[.int .u8 129] 5 1 w.heap.size rfl (by decide) (Nat.le_refl _)).alloc _) _ 1 [byv x] rfl (sl_new_at _ _ _ 1 (w.heap.size + 1) (by simp) rfl (by decide)) (by simp [Value.oneCell']) (by unfold maxLen; omega) (by omega) (by simp; omega) ?_)
  intro v1 w1 how1 hg1
  go_wp2
  rw [rounds_succ]
  go_wp2
  rw [Exit.noGoto_ret]
  go_ret
  exact ⟨_, rfl, how1, grown_below ((Below.refl _ _).alloc (Nat.le_refl _) _ |>.alloc (by simp) _) ((own_new w #[.int .u8 129] 5 1 w.heap.size rfl (by decide) (Nat.le_refl _)).alloc _) hg1 (by simp; omega)⟩
theorem int2_any (n : Nat) (x y : UInt8) (hn : n = x.toNat * 256 + y.toNat) (hx : 0 < x.toNat) (w : World) :
    Calls Tryd.prog 38 #[.int .i64 (n : Int)] w fun e w' => ∃ v, e = .returned v ∧ w'.ownsRow w.heap.size 5 1 v 3 ([130, x, y].map byv) ∧ Below w.heap.size w w' := by
  have hl := x.toNat_lt
  have hly := y.toNat_lt
  have hw : IntKind.u64.wrap (n : Int) = n := IntWalk.u64_in _ (by omega)
  have h56 : binOp .shr 32 (.int .u64 (n : Int)) (.int .i64 56) = pure (.int .u64 0) := shr_zero n 56 (by simp; omega)
  have h48 : binOp .shr 32 (.int .u64 (n : Int)) (.int .i64 48) = pure (.int .u64 0) := shr_zero n 48 (by simp; omega)
  have h40 : binOp .shr 32 (.int .u64 (n : Int)) (.int .i64 40) = pure (.int .u64 0) := shr_zero n 40 (by simp; omega)
  have h32 : binOp .shr 32 (.int .u64 (n : Int)) (.int .i64 32) = pure (.int .u64 0) := shr_zero n 32 (by simp; omega)
  have h24 : binOp .shr 32 (.int .u64 (n : Int)) (.int .i64 24) = pure (.int .u64 0) := shr_zero n 24 (by simp; omega)
  have h16 : binOp .shr 32 (.int .u64 (n : Int)) (.int .i64 16) = pure (.int .u64 0) := shr_zero n 16 (by simp; omega)
  have hxx := u8_xor0 x
  have hyy := u8_xor0 y
  have hnx : (n : Int) / 256 = (x.toNat : Int) := by omega
  have hny : (n : Int) % 256 = (y.toNat : Int) := by omega
  have hny' : IntKind.u8.wrap (n : Int) = (y.toNat : Int) := by rw [IntKind.wrap_u8]; omega
  have hnl : n < 65536 := by omega
  clear hn
  have hg0 : ((0 : Int) < (x.toNat : Int)) := by omega
  go_enter Tryd.func38, Tryd.ntmps38
  go_wp2
  go_step3
  go_wp2
  go_step3
  go_wp2
  refine wp_loop_rounds 7 ?_
  rw [rounds_succ]; go_wp2
  rw [rounds_succ]; go_wp2
  rw [rounds_succ]; go_wp2
  rw [rounds_succ]; go_wp2
  rw [rounds_succ]; go_wp2
  rw [rounds_succ]; go_wp2
  rw [rounds_succ]; go_wp2
  refine wp_loop_rounds 3 ?_
  rw [rounds_succ]
  go_wp2_with (refine wpList_append_sl rfl _ _ 22 rfl w.heap.size 5 (.int .u8 0) 1 1 Tryd.underlying22 info5 rfl (by decide) _ 1 _ rfl ((own_new w #[.int .u8 130] 5 1 w.heap.size rfl (by decide) (Nat.le_refl _)).alloc _) _ 1 [byv x] rfl (sl_new_at _ _ _ 1 (w.heap.size + 1) (by simp) rfl (by decide)) (by simp [Value.oneCell']) (by unfold maxLen; omega) (by omega) (by simp; omega) ?_)
  intro v1 w1 how1 hg1
  have hb1 := grown_below ((Below.refl _ _).alloc (Nat.le_refl _) _ |>.alloc (by simp) _) ((own_new w #[.int .u8 130] 5 1 w.heap.size rfl (by decide) (Nat.le_refl _)).alloc _) hg1 (by simp; omega)
  clear hg1
  have hz1 := hb1.size
  go_wp2
  rw [rounds_succ]
  go_wp2_with (refine wpList_append_sl rfl _ _ 22 rfl w.heap.size 5 (.int .u8 0) 1 1 Tryd.underlying22 info5 rfl (by decide) _ 2 _ rfl (how1.alloc _) _ 1 [byv y] rfl (sl_new_at _ _ _ 1 w1.heap.size rfl rfl (by decide)) (by simp [Value.oneCell']) (by unfold maxLen; omega) (by omega) (by simp; omega) ?_)
  intro v2 w2 how2 hg2
  have hb2 := hb1.trans (grown_below ((Below.refl _ _).alloc (by omega) _) (how1.alloc _) hg2 (by simp; omega))
  clear hg2
  go_wp2
  rw [rounds_succ]
  go_wp2
  rw [Exit.noGoto_ret]
  go_ret
  exact ⟨_, rfl, how2, hb2⟩
def wireInt (n : Nat) : List UInt8 := if n = 0 then [128] else if n < 256 then [129, UInt8.ofNat n] else [130, UInt8.ofNat (n / 256), UInt8.ofNat (n % 256)]
theorem int_any (n : Nat) (hn : n < 65536) (w : World) : Calls Tryd.prog 38 #[.int .i64 (n : Int)] w fun e w' => ∃ v, e = .returned v ∧ w'.ownsRow w.heap.size 5 1 v (wireInt n).length ((wireInt n).map byv) ∧ Below w.heap.size w w' := by
  by_cases h0 : n = 0
  · subst h0; exact int0_any w
  by_cases h1 : n < 256
  · have e : wireInt n = [129, UInt8.ofNat n] := by simp [wireInt, h0, h1]
    rw [e]
    exact int1_any n (UInt8.ofNat n) (by simp; omega) (by omega) w
  · have e : wireInt n = [130, UInt8.ofNat (n / 256), UInt8.ofNat (n % 256)] := by simp [wireInt, h0, h1]
    rw [e]
    exact int2_any n (UInt8.ofNat (n / 256)) (UInt8.ofNat (n % 256)) (by simp; omega) (by simp; omega) w
def wireBytes (bs : List UInt8) : List UInt8 := wireInt bs.length ++ bs
theorem wireInt_len (n : Nat) : (wireInt n).length ≤ 3 := by unfold wireInt; repeat' split
                                                             all_goals simp
theorem wpList_append_str {P : Program} {w : World} {ops : Array Oper} {rest : List Oper} {o : Oper} {a : Act} {Q : Exit → Act → World → Prop} (hgd : o.guard = none) (s x : Operand) (t u : TypeId)
    (ho : o.op = .call { callee := .builtin .append, args := #[s, x], argTypes := #[t, u] })
    (base : Nat) (e : TypeId) (ht : P.underlying t = some (.slice e)) (hu : P.underlying u = some .string) (hi : (P.info? e).map (fun i => (i.zero, i.size, i.bytes)) = some (some (.int .u8 0), 1, 1))
    (v : Value) (n : Nat) (xs : List Value) (hs : a.eval s = v) (hown : w.ownsRow base e 1 v n xs) (bs : List UInt8) (hx : a.eval x = str bs)
    (h63 : n + bs.length ≤ 140737488355328) (hbase : base ≤ w.heap.size)
    (h : ∀ v' w', w'.ownsRow base e 1 v' (n + bs.length) (xs ++ bs.map byv) → w.grownBy w' v.ownBlock → wpList P ops Q rest (a.put o.dst v') w') : wpList P ops Q (o :: rest) a w := by
  obtain ⟨i, hi1, hi2, hi3, hi4⟩ := info_parts hi
  refine Lib.wpList_append_own_string _ hgd s x t u ho base e i ht hu hi1 hi2 hi3 hi4 v n xs hs hown ⟨bs.toArray⟩ hx (by rw [str_size]; unfold maxLen; omega) (by rw [str_size]; exact h63) hbase fun v' w' k1 k2 _ => h v' w' ?_ k2
  rw [str_size] at k1
  exact k1
theorem wbytes_any (bs : List UInt8) (hb : bs.length < 65536) (w : World) : Calls Tryd.prog 33 #[str bs] w fun e w' => ∃ v, e = .returned v ∧ w'.ownsRow w.heap.size 5 1 v (wireBytes bs).length ((wireBytes bs).map byv) ∧ Below w.heap.size w w' := by
  have hc := fun W => int_any bs.length hb W
  have hil := wireInt_len bs.length
  go_enter Tryd.func33, Tryd.ntmps33
  go_wp2_with (first | (refine wpList_append_str rfl _ _ 22 9 rfl w.heap.size 5 Tryd.underlying22 Tryd.underlying9 info5 _ _ _ rfl (by assumption) bs rfl (by omega) (by assumption) ?_) | (go_at_call 38; refine (hc _).mono ?_; rintro e w' ⟨v, rfl, how, hbw⟩; have hz := hbw.size))
  intro v2 w2 how2 hg2
  have hb2 := grown_below hbw how hg2 hz
  go_wp2
  go_ret
  refine ⟨_, rfl, ?_, hb2⟩
  rw [wireBytes, List.length_append, List.map_append]
  exact how2
end Go.Proofs.YtcdgpkhfflehjaaDoor
