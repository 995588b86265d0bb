/- The walks over the reference's Int, Bytes, Input. -/
import Derived.Test.YtcdgpkhfflehjaaDoorA20
namespace Go.Proofs.YtcdgpkhfflehjaaDoor
open Go.RowKit Go.Sha Go.Own
attribute [local go_sem high] op_str_eql op_str_neq
attribute [local go_sem] str_size
theorem own_lower {w : World} {base base' size n : Nat} {e : TypeId} {v : Value} {xs : List Value} (h : w.ownsRow base e size v n xs) (hb : base' ≤ base) : w.ownsRow base' e size v n xs := by
  obtain ⟨h1, h2 | ⟨g, cap, cur, h2, h3, h4⟩⟩ := h
  · exact ⟨h1, .inl h2⟩
  · exact ⟨h1, .inr ⟨g, cap, cur, h2, Nat.le_trans hb h3, h4⟩⟩
theorem rint0_any (w : World) : Calls Tryd.prog 39 #[.int .i64 0] w fun e w' => ∃ v, e = .returned v ∧ w'.ownsRow w.heap.size 5 1 v 1 ([128].map byv) ∧ Below w.heap.size w w' := by
  go_enter Tryd.func39, Tryd.ntmps39
  go_wp2
  refine wp_loop_rounds 1 ?_
  rw [rounds_succ]
  go_wp2_with (refine wpList_append_sl rfl _ _ 22 rfl w.heap.size 5 (.int .u8 0) 1 1 Tryd.underlying22 info5 rfl (by decide) _ 0 _ rfl ((World.ownsRow_nil w w.heap.size 5 1).alloc _) _ 1 [byv 128] rfl (sl_new _ _ _ 1 rfl (by decide)) (by simp [Value.oneCell']) (by unfold maxLen; omega) (by omega) (by simp) ?_)
  intro v1 w1 how1 hg1
  have hb1 : Below w.heap.size w w1 := grown_below ((Below.refl _ _).alloc (Nat.le_refl _) _) ((World.ownsRow_nil w w.heap.size 5 1).alloc _) hg1 (by simp)
  clear hg1
  go_wp2
  refine wp_loop_rounds 1 ?_
  rw [rounds_succ]
  go_wp2
  go_ret
  exact ⟨_, rfl, how1, hb1⟩
theorem rint1_any (n : Nat) (x : UInt8) (hn : n = x.toNat) (hx : 0 < n) (w : World) :
    Calls Tryd.prog 39 #[.int .i64 (n : Int)] w fun e w' => ∃ v, e = .returned v ∧ w'.ownsRow w.heap.size 5 1 v 2 ([129, x].map byv) ∧ Below w.heap.size w w' := by
  have hl := x.toNat_lt
  have hdiv : (n : Int) / 256 = 0 := by omega
  have hmod : (n : Int) % 256 = (x.toNat : Int) := by omega
  have hnl : n < 256 := by omega
  clear hn
  go_enter Tryd.func39, Tryd.ntmps39
  go_wp2
  refine wp_loop_rounds 2 ?_
  rw [rounds_succ]
  go_wp2_with (refine wpList_append_sl rfl _ _ 22 rfl w.heap.size 5 (.int .u8 0) 1 1 Tryd.underlying22 info5 rfl (by decide) _ 0 _ rfl ((World.ownsRow_nil w w.heap.size 5 1).alloc _) _ 1 [byv x] rfl (sl_new _ _ _ 1 rfl (by decide)) (by simp [Value.oneCell']) (by unfold maxLen; omega) (by omega) (by simp) ?_)
  intro v1 w1 how1 hg1
  have hb1 : Below w.heap.size w w1 := grown_below ((Below.refl _ _).alloc (Nat.le_refl _) _) ((World.ownsRow_nil w w.heap.size 5 1).alloc _) hg1 (by simp)
  clear hg1
  have hz1 := hb1.size
  have hsl1 : Sl w1 1 v1 1 [byv x] := Sl.of_owns how1
  clear how1
  obtain ⟨sa, cap, rfl⟩ := sl_slice hsl1
  go_wp2
  rw [rounds_succ]
  go_wp2_with (refine wpList_append_sl rfl _ _ 22 rfl w1.heap.size 5 (.int .u8 0) 1 1 Tryd.underlying22 info5 rfl (by decide) _ 0 _ rfl ((World.ownsRow_nil w1 w1.heap.size 5 1).alloc _) _ 1 [byv 129] rfl (sl_new _ _ _ 1 rfl (by decide)) (by simp [Value.oneCell']) (by unfold maxLen; omega) (by omega) (by simp) ?_)
  intro v2 w2 how2 hg2
  have hb2 : Below w1.heap.size w1 w2 := grown_below ((Below.refl _ _).alloc (Nat.le_refl _) _) ((World.ownsRow_nil w1 w1.heap.size 5 1).alloc _) hg2 (by simp)
  clear hg2
  have hz2 := hb2.size
  obtain ⟨b, off, rfl, hc1, hc2, hC, hlt⟩ := sl_cases (hsl1.below hb2) (by omega)
  have cx : w2.cell? ⟨b, off, none⟩ = some (byv x) := hC 0 _ rfl
  clear hC hsl1
  go_wp2
  refine wp_loop_rounds 2 ?_
  rw [rounds_succ]
  go_wp2_with (refine wpList_append_sl rfl _ _ 22 rfl w1.heap.size 5 (.int .u8 0) 1 1 Tryd.underlying22 info5 rfl (by decide) _ 1 _ rfl (how2.alloc _) _ 1 [byv x] rfl (sl_new _ _ _ 1 rfl (by decide)) (by simp [Value.oneCell']) (by unfold maxLen; omega) (by omega) (by simp; omega) ?_)
  intro v3 w3 how3 hg3
  have hb3 : Below w1.heap.size w1 w3 := grown_below (hb2.alloc (by omega) _) (how2.alloc _) hg3 (by simp; omega)
  clear hg3
  go_wp2
  rw [rounds_succ]
  go_wp2
  go_ret
  exact ⟨_, rfl, own_lower how3 hz1, hb1.trans (hb3.mono hz1)⟩
theorem rint2_any (n : Nat) (x y : UInt8) (hn : n = x.toNat * 256 + y.toNat) (hx : 0 < x.toNat) (w : World) :
    Calls Tryd.prog 39 #[.int .i64 (n : Int)] w fun e w' => ∃ v, e = .returned v ∧ w'.ownsRow w.heap.size 5 1 v 3 ([130, x, y].map byv) ∧ Below w.heap.size w w' := by
  have hl := x.toNat_lt
  have hly := y.toNat_lt
  have hdiv : (n : Int) / 256 = (x.toNat : Int) := by omega
  have hmod : (n : Int) % 256 = (y.toNat : Int) := by omega
  have hdiv2 : (x.toNat : Int) / 256 = 0 := by omega
  have hmod2 : (x.toNat : Int) % 256 = (x.toNat : Int) := by omega
  have hnl : n < 65536 := by omega
  have hn0 : 0 < n := by omega
  clear hn
  go_enter Tryd.func39, Tryd.ntmps39
  go_wp2
  refine wp_loop_rounds 3 ?_
  rw [rounds_succ]
  go_wp2_with (refine wpList_append_sl rfl _ _ 22 rfl w.heap.size 5 (.int .u8 0) 1 1 Tryd.underlying22 info5 rfl (by decide) _ 0 _ rfl ((World.ownsRow_nil w w.heap.size 5 1).alloc _) _ 1 [byv y] rfl (sl_new _ _ _ 1 rfl (by decide)) (by simp [Value.oneCell']) (by unfold maxLen; omega) (by omega) (by simp) ?_)
  intro v1 w1 how1 hg1
  have hb1 : Below w.heap.size w w1 := grown_below ((Below.refl _ _).alloc (Nat.le_refl _) _) ((World.ownsRow_nil w w.heap.size 5 1).alloc _) hg1 (by simp)
  clear hg1
  have hz1 := hb1.size
  go_wp2
  rw [rounds_succ]
  go_wp2_with (refine wpList_append_sl rfl _ _ 22 rfl w.heap.size 5 (.int .u8 0) 1 1 Tryd.underlying22 info5 rfl (by decide) _ 1 _ rfl (how1.alloc _) _ 1 [byv x] rfl (sl_new _ _ _ 1 rfl (by decide)) (by simp [Value.oneCell']) (by unfold maxLen; omega) (by omega) (by simp; omega) ?_)
  intro v2 w2 how2 hg2
  have hb2 : Below w.heap.size w w2 := grown_below (hb1.alloc (by omega) _) (how1.alloc _) hg2 (by simp; omega)
  clear hg2
  have hz2 := hb2.size
  have hsl2 : Sl w2 1 v2 2 [byv y, byv x] := Sl.of_owns how2
  clear how1 how2
  obtain ⟨sa, cap, rfl⟩ := sl_slice hsl2
  go_wp2
  rw [rounds_succ]
  go_wp2_with (refine wpList_append_sl rfl _ _ 22 rfl w2.heap.size 5 (.int .u8 0) 1 1 Tryd.underlying22 info5 rfl (by decide) _ 0 _ rfl ((World.ownsRow_nil w2 w2.heap.size 5 1).alloc _) _ 1 [byv 130] rfl (sl_new _ _ _ 1 rfl (by decide)) (by simp [Value.oneCell']) (by unfold maxLen; omega) (by omega) (by simp) ?_)
  intro v3 w3 how3 hg3
  have hb3 : Below w2.heap.size w2 w3 := grown_below ((Below.refl _ _).alloc (Nat.le_refl _) _) ((World.ownsRow_nil w2 w2.heap.size 5 1).alloc _) hg3 (by simp)
  clear hg3
  have hz3 := hb3.size
  obtain ⟨b, off, rfl, hc1, hc2, hC2, hlt⟩ := sl_cases hsl2 (by omega)
  have cx : w3.cell? ⟨b, off + 1, none⟩ = some (byv x) := (hC2.below hb3 hlt) 1 _ rfl
  have HC2 := Lib.hid hC2
  clear hC2 hsl2
  go_wp2
  refine wp_loop_rounds 3 ?_
  rw [rounds_succ]
  go_wp2_with (refine wpList_append_sl rfl _ _ 22 rfl w2.heap.size 5 (.int .u8 0) 1 1 Tryd.underlying22 info5 rfl (by decide) _ 1 _ rfl (how3.alloc _) _ 1 [byv x] rfl (sl_new _ _ _ 1 rfl (by decide)) (by simp [Value.oneCell']) (by unfold maxLen; omega) (by omega) (by simp; omega) ?_)
  intro v4 w4 how4 hg4
  have hb4 : Below w2.heap.size w2 w4 := grown_below (hb3.alloc (by omega) _) (how3.alloc _) hg4 (by simp; omega)
  have hz4 := hb4.size
  have cy : w4.cell? ⟨b, off, none⟩ = some (byv y) := (HC2.out.below hb4 hlt) 0 _ rfl
  clear hg4
  go_wp2
  rw [rounds_succ]
  go_wp2_with (refine wpList_append_sl rfl _ _ 22 rfl w2.heap.size 5 (.int .u8 0) 1 1 Tryd.underlying22 info5 rfl (by decide) _ 2 _ rfl (how4.alloc _) _ 1 [byv y] rfl (sl_new _ _ _ 1 rfl (by decide)) (by simp [Value.oneCell']) (by unfold maxLen; omega) (by omega) (by simp; omega) ?_)
  intro v5 w5 how5 hg5
  have hb5 : Below w2.heap.size w2 w5 := grown_below (hb4.alloc (by omega) _) (how4.alloc _) hg5 (by simp; omega)
  clear hg5
  go_wp2
  rw [rounds_succ]
  go_wp2
  go_ret
  exact ⟨_, rfl, own_lower how5 hz2, hb2.trans (hb5.mono hz2)⟩
theorem rint_any (n : Nat) (hn : n < 65536) (w : World) : Calls Tryd.prog 39 #[.int .i64 (n : Int)] w fun e w' => ∃ v, e = .returned v ∧ w'.ownsRow w.heap.size 5 1 v (wireInt n).length ((wireInt n).map byv) ∧ Below w.heap.size w w' := by
  by_cases h0 : n = 0
  · subst h0; exact rint0_any w
  by_cases h1 : n < 256
  · have e : wireInt n = [129, UInt8.ofNat n] := by simp [wireInt, h0, h1]
    rw [e]
    exact rint1_any n (UInt8.ofNat n) (by simp; omega) (by omega) w
  · have e : wireInt n = [130, UInt8.ofNat (n / 256), UInt8.ofNat (n % 256)] := by simp [wireInt, h0, h1]
    rw [e]
    exact rint2_any n (UInt8.ofNat (n / 256)) (UInt8.ofNat (n % 256)) (by simp; omega) (by simp; omega) w
theorem rbytes_any (bs : List UInt8) (hb : bs.length < 65536) (w : World) : Calls Tryd.prog 35 #[str bs] w fun e w' => ∃ v, e = .returned v ∧ w'.ownsRow w.heap.size 5 1 v (wireBytes bs).length ((wireBytes bs).map byv) ∧ Below w.heap.size w w' := by
  have hc := fun W => rint_any bs.length hb W
  have hil := wireInt_len bs.length
  have HC := Lib.hid hc; clear hc
  go_enter Tryd.func35, Tryd.ntmps35
  go_wp2_with fail
  refine (HC.out w).mono ?_
  rintro e w1 ⟨v1, rfl, how1, hb1⟩
  have hz1 := hb1.size
  go_wp2_with (refine wpList_str_bytes (bs := bs) rfl rfl rfl Tryd.underlying9 Tryd.underlying22 Tryd.underlying5 (by omega) ?_)
  intro sa cap w2 hsl2 hb2
  have how2 := how1.below hb2
  have hz2 := hb2.size
  go_wp2_with (refine wpList_append_sl rfl _ _ 22 rfl w.heap.size 5 (.int .u8 0) 1 1 Tryd.underlying22 info5 rfl (by decide) _ _ _ rfl how2 _ _ _ rfl hsl2 (bytes_oneCell _) (by unfold maxLen; omega) (by omega) (by omega) ?_)
  intro v3 w3 how3 hg3
  have hb3 := grown_below (hb1.trans (hb2.mono hz1)) how2 hg3 (by omega)
  go_wp2
  go_ret
  refine ⟨_, rfl, ?_, hb3⟩
  rw [wireBytes, List.length_append, List.map_append]
  exact how3
set_option maxHeartbeats 400000 in
theorem input_any (t : Int) (l : List (List UInt8)) (hp0 : ∀ p ∈ l, p.length < 65536) (hn : l.length ≤ 1000) (sa : Option Addr) (cap : Nat) (w : World) (hsl : Sl w 1 (.slice sa l.length cap) l.length (l.map str)) :
    Calls Tryd.prog 23 #[.int .i64 t, .slice sa l.length cap] w fun e w' => ∃ v, e = .returned v ∧ w'.ownsRow w.heap.size 5 1 v (inputF t l).length ((inputF t l).map byv) ∧ Below w.heap.size w w' := by
  have HSL := Lib.hid hsl; clear hsl
  have HP0 := Lib.hid hp0; clear hp0
  have hwr := tagB_wrap t
  obtain ⟨b, Hb⟩ : ∃ b, Hid (b = tagB t) := ⟨_, rfl⟩
  rw [← Hb.out] at hwr
  go_enter Tryd.func23, Tryd.ntmps23
  go_wp2
  go_loopw [5, 6] (fun v c wr => ∃ i : Nat, i ≤ l.length ∧ c = .int .i64 i ∧ wr.ownsRow w.heap.size 5 1 v (b :: (l.take i).flatMap wireBytes).length ((b :: (l.take i).flatMap wireBytes).map byv) ∧ Below w.heap.size w wr) (fun _ c _ => l.length - (intOf c).toNat)
  case atStart => exact ⟨0, by omega, rfl, own_new _ _ _ 1 _ rfl (by decide) (Nat.le_refl _), (Below.refl _ _).alloc (Nat.le_refl _) _⟩
  case round =>
    obtain ⟨i, hi, rfl, how, hbw⟩ := hrel
    have hz := hbw.size
    by_cases hil : i < l.length
    · obtain ⟨b0, off, rfl, hc1, hc2, hC, hlt⟩ := sl_cases HSL.out (by omega)
      obtain ⟨p, Hp⟩ : ∃ p, Hid (p = l.getD i []) := ⟨_, rfl⟩
      have hmem : p ∈ l := by rw [Hp.out]; simp [hil]
      have hpl := HP0.out p hmem
      have cx : wr.cell? ⟨b0, off + i, none⟩ = some (str p) := (hC.below hbw hlt) i (str p) (by rw [Hp.out]; simp [hil])
      clear hC
      have hfl := flat_len (l.take i) (fun q hq => HP0.out q (List.mem_of_mem_take hq))
      have hfl2 : (l.take i).length ≤ i := by simp; omega
      obtain ⟨M, HM⟩ : ∃ M, Hid (M = b :: (l.take i).flatMap wireBytes) := ⟨_, rfl⟩
      have hMl : M.length ≤ 65539 * i + 1 := by
        rw [HM.out, List.length_cons]
        have := Nat.mul_le_mul_left 65539 hfl2
        omega
      rw [← HM.out] at how
      have hwl := wireBytes_len p
      clear hfl hfl2
      go_wp2_with fail
      refine (rbytes_any p hpl wr).mono ?_
      rintro e w1 ⟨v1, rfl, how1, hb1⟩
      have hz1 := hb1.size
      have howr := how.below hb1
      go_wp2_with (refine wpList_append_sl rfl _ _ 22 rfl w.heap.size 5 (.int .u8 0) 1 1 Tryd.underlying22 info5 rfl (by decide) _ _ _ rfl howr _ _ _ rfl (Sl.of_owns how1) (bytes_oneCell _) (by unfold maxLen; omega) (by omega) (by omega) ?_)
      intro v2 w2 how2 hg2
      have hb2 := grown_below (hbw.trans (hb1.mono hz)) howr hg2 (by omega)
      clear how1 howr hg2
      go_wp2
      go_roundw
      case rel =>
        refine ⟨i + 1, by omega, by go_num, ?_, hb2⟩
        have e : (b :: (l.take (i + 1)).flatMap wireBytes) = M ++ wireBytes p := by
          have e0 : l[i] = p := by rw [Hp.out]; simp [hil]
          rw [List.take_succ_eq_append_getElem hil, e0, List.flatMap_append, HM.out]
          simp
        rw [e, List.length_append, List.map_append]
        exact how2
      case measure => simp [intOf]; omega
    · obtain rfl : i = l.length := by omega
      rw [List.take_length] at how
      go_wp2
      go_ret
      refine ⟨_, rfl, ?_, hbw⟩
      rw [inputF, ← Hb.out]; exact how
end Go.Proofs.YtcdgpkhfflehjaaDoor
