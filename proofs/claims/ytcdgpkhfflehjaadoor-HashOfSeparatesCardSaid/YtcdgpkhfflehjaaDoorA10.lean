/- The walks over Bytes32, Text, Equal, hex. -/
import Derived.Test.YtcdgpkhfflehjaaDoorA9
namespace Go.Proofs.YtcdgpkhfflehjaaDoor
open Go.RowKit Go.Sha Go.Own
attribute [local go_sem high] op_add op_xor op_and op_or op_not op_shl op_shr op_shl_lit op_shr_lit byte_mod op_str_eql op_str_neq
attribute [local go_sem] setCell_twice str_size
theorem index9 (W : World) (bs : List UInt8) (i : Nat) (k : IntKind) (hi : i < bs.length) : (Instr.index 9 (str bs) (.int k (i : Int))).run Tryd.prog W = .ok (byv (bs.getD i 0)) W := by
  rw [run_index_string W 9 ⟨bs.toArray⟩ k i Tryd.underlying9, dif_pos ⟨by omega, by rw [str_size]; omega⟩]
  have e : (⟨bs.toArray⟩ : ByteArray)[(i : Int).toNat]'(by rw [str_size]; omega) = bs[i] := by
    simp only [Int.toNat_natCast]; rfl
  rw [e]
  simp [byv, hi]
theorem bytes32_any (l : List UInt8) (hl : l.length = 32) (w : World) :
    Calls Tryd.prog 20 #[.agg (l.map byv).toArray] w fun e w' => e = .returned (str l) ∧ Below w.heap.size w w' := by
  have HL := Lib.hid hl; clear hl
  go_enter Tryd.func20, Tryd.ntmps20
  go_wp2
  go_loopw [4, 3] (fun c v wr => ∃ i : Nat, i ≤ 32 ∧ c = .int .i64 i ∧ wr.ownsRow (w.heap.size + 1) 5 1 v (l.take i).length ((l.take i).map byv) ∧ Blk wr w.heap.size (l.map byv) 24 ∧ Below w.heap.size w wr) (fun c _ _ => 32 - (intOf c).toNat)
  case atStart => exact ⟨0, by omega, rfl, World.ownsRow_nil _ _ _ _, Blk.new _ _ _, (Below.refl _ _).alloc (Nat.le_refl _) _⟩
  case round =>
    obtain ⟨i, hi, rfl, how, hB, hb⟩ := hrel
    have hz := hB.lt
    by_cases hi32 : i < 32
    · have hlt : (l.take i).length = i := by simp; have := HL.out; omega
      rw [hlt] at how
      obtain ⟨x, Hx⟩ : ∃ x, Hid (x = l.getD i 0) := ⟨_, rfl⟩
      have cx : wr.cell? ⟨w.heap.size, i, none⟩ = some (byv x) := hB.cell (by have := HL.out; rw [Hx.out]; simp [show i < l.length by omega])
      go_wp2_with (refine wpList_append_sl rfl _ _ 22 rfl (w.heap.size + 1) 5 (.int .u8 0) 1 1 Tryd.underlying22 info5 rfl (by decide) _ i _ rfl (how.alloc _) _ 1 [byv x] rfl (sl_new _ _ _ 1 rfl (by decide)) (by simp [Value.oneCell']) (by unfold maxLen; omega) (by omega) (by simp; omega) ?_)
      intro v' w' hown' hg
      go_wp2
      go_roundw
      case rel =>
        have e : l.take (i + 1) = l.take i ++ [x] := by
          have : i < l.length := by have := HL.out; omega
          rw [List.take_succ_eq_append_getElem this, Hx.out]; simp [this]
        refine ⟨i + 1, by omega, by go_num, ?_, (hB.alloc _).grown hg ?_, ?_⟩
        · rw [e, List.length_append, hlt]; simpa using hown'
        · intro he; have := (how.lt _ he.symm).1; omega
        · exact hb.trans ((grown_below ((Below.refl _ _).alloc (by omega) _) (how.alloc _) hg (by simp; omega)).mono (by omega))
      case measure => simp [intOf]; omega
    · obtain rfl : i = 32 := by omega
      have e : l.take 32 = l := List.take_of_length_le (by have := HL.out; omega)
      rw [e] at how
      have hcv := conv22 wr u3 l (Sl.of_owns how)
      clear how e
      go_wp2
      go_ret
      exact ⟨rfl, hb⟩
theorem text_any (l : List UInt8) (hl : l.length = 16) (w : World) :
    Calls Tryd.prog 26 #[.agg (l.map byv).toArray] w fun e w' => e = .returned (str l) ∧ Below w.heap.size w w' := by
  have HL := Lib.hid hl; clear hl
  go_enter Tryd.func26, Tryd.ntmps26
  go_wp2
  go_loopw [4, 3] (fun c v wr => ∃ i : Nat, i ≤ 16 ∧ c = .int .i64 i ∧ wr.ownsRow (w.heap.size + 1) 5 1 v (l.take i).length ((l.take i).map byv) ∧ Blk wr w.heap.size (l.map byv) 44 ∧ Below w.heap.size w wr) (fun c _ _ => 16 - (intOf c).toNat)
  case atStart => exact ⟨0, by omega, rfl, World.ownsRow_nil _ _ _ _, Blk.new _ _ _, (Below.refl _ _).alloc (Nat.le_refl _) _⟩
  case round =>
    obtain ⟨i, hi, rfl, how, hB, hb⟩ := hrel
    have hz := hB.lt
    by_cases hi16 : i < 16
    · have hlt : (l.take i).length = i := by simp; have := HL.out; omega
      rw [hlt] at how
      obtain ⟨x, Hx⟩ : ∃ x, Hid (x = l.getD i 0) := ⟨_, rfl⟩
      have cx : wr.cell? ⟨w.heap.size, i, none⟩ = some (byv x) := hB.cell (by have := HL.out; rw [Hx.out]; simp [show i < l.length by omega])
      go_wp2_with (refine wpList_append_sl rfl _ _ 22 rfl (w.heap.size + 1) 5 (.int .u8 0) 1 1 Tryd.underlying22 info5 rfl (by decide) _ i _ rfl (how.alloc _) _ 1 [byv x] rfl (sl_new _ _ _ 1 rfl (by decide)) (by simp [Value.oneCell']) (by unfold maxLen; omega) (by omega) (by simp; omega) ?_)
      intro v' w' hown' hg
      go_wp2
      go_roundw
      case rel =>
        have e : l.take (i + 1) = l.take i ++ [x] := by
          have : i < l.length := by have := HL.out; omega
          rw [List.take_succ_eq_append_getElem this, Hx.out]; simp [this]
        refine ⟨i + 1, by omega, by go_num, ?_, (hB.alloc _).grown hg ?_, ?_⟩
        · rw [e, List.length_append, hlt]; simpa using hown'
        · intro he; have := (how.lt _ he.symm).1; omega
        · exact hb.trans ((grown_below ((Below.refl _ _).alloc (by omega) _) (how.alloc _) hg (by simp; omega)).mono (by omega))
      case measure => simp [intOf]; omega
    · obtain rfl : i = 16 := by omega
      have e : l.take 16 = l := List.take_of_length_le (by have := HL.out; omega)
      rw [e] at how
      have hcv := conv22 wr u3 l (Sl.of_owns how)
      clear how e
      go_wp2
      go_ret
      exact ⟨rfl, hb⟩
theorem u8_diff (d x y : UInt8) : bits .or .u8 (d.toNat : Int) (bits .xor .u8 (x.toNat : Int) (y.toNat : Int)) = ((d ||| (x ^^^ y)).toNat : Int) := by
  have hx := x.toNat_lt; have hy := y.toNat_lt; have hd := d.toNat_lt
  rw [u8_xor_nat _ _ hx hy, ← UInt8.toNat_xor, u8_or_nat _ _ hd (UInt8.toNat_lt _), ← UInt8.toNat_or]
theorem diff_zero (d x y : UInt8) : (d ||| (x ^^^ y)) = 0 ↔ d = 0 ∧ x = y := by
  constructor
  · intro h
    have h' := congrArg UInt8.toBitVec h
    simp at h'
    obtain ⟨h1, h2⟩ := h'
    refine ⟨UInt8.eq_of_toBitVec_eq h1, UInt8.eq_of_toBitVec_eq ?_⟩
    exact h2
  · rintro ⟨rfl, rfl⟩; simp
theorem equal_any (a b : List UInt8) (w : World) (ha : a.length ≤ 1099511627776) (hb : b.length ≤ 1099511627776) :
    Calls Tryd.prog 24 #[str a, str b] w fun e w' => e = .returned (.bool (a == b)) ∧ ∃ n, w' = w.drewN n := by
  by_cases hl : a.length = b.length
  · have hne : ((a.length : Int) != (b.length : Int)) = false := by simp [hl]
    have HLl := Lib.hid hl; clear hl
    go_enter Tryd.func24, Tryd.ntmps24
    go_wp2
    go_loopw [14, 5] (fun c v wr => ∃ (i : Nat) (d : UInt8), i ≤ a.length ∧ c = .int .i64 i ∧ v = byv d ∧ Hid (d = 0 ↔ a.take i = b.take i) ∧ ∃ n, wr = w.drewN n) (fun c _ _ => a.length - (intOf c).toNat)
    case atStart => exact ⟨0, 0, by omega, rfl, rfl, by show _ ↔ _; simp, 0, rfl⟩
    case round =>
      obtain ⟨i, d, hi, rfl, rfl, Hd, n, rfl⟩ := hrel
      by_cases hil : i < a.length
      · have hib : i < b.length := by have := HLl.out; omega
        obtain ⟨x, Hx⟩ : ∃ x, Hid (x = a.getD i 0) := ⟨_, rfl⟩
        obtain ⟨y, Hy⟩ : ∃ y, Hid (y = b.getD i 0) := ⟨_, rfl⟩
        have ia : ∀ W, (Instr.index 9 (str a) (.int .i64 (i : Int))).run Tryd.prog W = .ok (byv x) W := fun W => by rw [Hx.out]; exact index9 W a i .i64 hil
        have ib : ∀ W, (Instr.index 9 (str b) (.int .i64 (i : Int))).run Tryd.prog W = .ok (byv y) W := fun W => by rw [Hy.out]; exact index9 W b i .i64 hib
        have hu := u8_diff d x y
        go_wp2
        go_quiet (fail)
        go_wp2
        go_roundw
        case rel =>
          refine ⟨i + 1, d ||| (x ^^^ y), by omega, by go_num, rfl, ?_, _, rfl⟩
          show _ ↔ _
          have ea : a.take (i + 1) = a.take i ++ [x] := by rw [List.take_succ_eq_append_getElem hil, Hx.out]; simp [hil]
          have eb : b.take (i + 1) = b.take i ++ [y] := by rw [List.take_succ_eq_append_getElem hib, Hy.out]; simp [hib]
          rw [diff_zero, Hd.out, ea, eb]
          constructor
          · rintro ⟨h1, h2⟩; rw [h1, h2]
          · intro h
            have hlen : (a.take i).length = (b.take i).length := by simp; omega
            have := List.append_inj h hlen
            exact ⟨this.1, by simpa using this.2⟩
        case measure => simp [intOf]; omega
      · obtain rfl : i = a.length := by omega
        have hfin : ((d.toNat : Int) == 0) = (a == b) := by
          rw [List.take_length, HLl.out, List.take_length] at Hd
          have h := Hd.out
          by_cases hd : d = 0
          · have := h.1 hd; simp [hd, this]
          · have h2 : ¬ a = b := fun e => hd (h.2 e)
            have h3 : d.toNat ≠ 0 := fun e => hd (UInt8.toNat_inj.1 (by simpa using e))
            rw [beq_eq_false_iff_ne.2 h2, beq_eq_false_iff_ne.2 (by omega)]
        go_wp2
        go_ret
        exact ⟨rfl, _, rfl⟩
  · have hne : ((a.length : Int) != (b.length : Int)) = true := by simp; omega
    have hab : (a == b) = false := by simp; intro h; exact hl (by rw [h])
    go_enter Tryd.func24, Tryd.ntmps24
    go_wp2
    go_ret
    exact ⟨by rw [hab]; rfl, 0, rfl⟩
def digitsL : List UInt8 := [48, 49, 50, 51, 52, 53, 54, 55, 56, 57, 97, 98, 99, 100, 101, 102]
def hexF (bs : List UInt8) : List UInt8 := bs.flatMap fun b => [digitsL.getD (b.toNat / 16) 0, digitsL.getD (b.toNat % 16) 0]
theorem hex_any (bs : List UInt8) (hb : bs.length ≤ 1000) (w : World) :
    Calls Tryd.prog 25 #[str bs] w fun e w' => e = .returned (str (hexF bs)) ∧ Below w.heap.size w w' := by
  go_enter Tryd.func25, Tryd.ntmps25
  go_wp2
  go_loopw [5, 4] (fun c v wr => ∃ i : Nat, i ≤ bs.length ∧ c = .int .i64 i ∧ wr.ownsRow w.heap.size 5 1 v (2 * i) ((hexF (bs.take i)).map byv) ∧ Below w.heap.size w wr) (fun c _ _ => bs.length - (intOf c).toNat)
  case atStart => exact ⟨0, by omega, rfl, by simpa [hexF] using World.ownsRow_nil _ _ _ _, Below.refl _ _⟩
  case round =>
    obtain ⟨i, hi, rfl, how, hbw⟩ := hrel
    have hz := hbw.size
    by_cases hil : i < bs.length
    · obtain ⟨x, Hx⟩ : ∃ x, Hid (x = bs.getD i 0) := ⟨_, rfl⟩
      have ix : ∀ W, (Instr.index 9 (str bs) (.int .i64 (i : Int))).run Tryd.prog W = .ok (byv x) W := fun W => by rw [Hx.out]; exact index9 W bs i .i64 hil
      obtain ⟨p, Hp⟩ : ∃ p, Hid (p = x.toNat / 16) := ⟨_, rfl⟩
      obtain ⟨q, Hq⟩ : ∃ q, Hid (q = x.toNat % 16) := ⟨_, rfl⟩
      have hp : (x.toNat : Int) / 16 = (p : Int) := by have := Hp.out; omega
      have hq : (x.toNat : Int) % 16 = (q : Int) := by have := Hq.out; omega
      have hxl := x.toNat_lt
      obtain ⟨y, Hy⟩ : ∃ y, Hid (y = digitsL.getD p 0) := ⟨_, rfl⟩
      obtain ⟨z, Hz⟩ : ∃ z, Hid (z = digitsL.getD q 0) := ⟨_, rfl⟩
      have ip : ∀ W, (Instr.index 9 (.string ⟨#[48, 49, 50, 51, 52, 53, 54, 55, 56, 57, 97, 98, 99, 100, 101, 102]⟩) (.int .u8 (p : Int))).run Tryd.prog W = .ok (byv y) W := fun W => by rw [Hy.out]; exact index9 W digitsL p .u8 (by have := Hp.out; simp [digitsL]; omega)
      have iq : ∀ W, (Instr.index 9 (.string ⟨#[48, 49, 50, 51, 52, 53, 54, 55, 56, 57, 97, 98, 99, 100, 101, 102]⟩) (.int .u8 (q : Int))).run Tryd.prog W = .ok (byv z) W := fun W => by rw [Hz.out]; exact index9 W digitsL q .u8 (by have := Hq.out; simp [digitsL]; omega)
      go_wp2
      refine wp_region_rg' 14 (fun ix v w => match ix with
        | 0 => v = u4
        | 1 => v = .string ⟨#[48, 49, 50, 51, 52, 53, 54, 55, 56, 57, 97, 98, 99, 100, 101, 102]⟩
        | 2 => v = str bs
        | 3 => v = .int .i64 (i : Int)
        | 4 => v = byv x
        | 5 => v = .int .u8 (p : Int)
        | 6 => v = byv y
        | 7 => v = .string ⟨#[48, 49, 50, 51, 52, 53, 54, 55, 56, 57, 97, 98, 99, 100, 101, 102]⟩
        | 8 => v = str bs
        | 9 => v = .int .i64 (i : Int)
        | 10 => v = byv x
        | 11 => v = .int .u8 (q : Int)
        | 12 => v = byv z
        | 13 => Sl w 1 v 2 [byv y, byv z]
        | _ => True) (by kernel_rfl) (by kernel_rfl) ?stable ?hop ?hend
      case stable =>
        intro ix v w w' h hb
        match ix, h with
        | 13, h => exact Sl.below h hb
        | 0, h => exact h
        | 1, h => exact h
        | 2, h => exact h
        | 3, h => exact h
        | 4, h => exact h
        | 5, h => exact h
        | 6, h => exact h
        | 7, h => exact h
        | 8, h => exact h
        | 9, h => exact h
        | 10, h => exact h
        | 11, h => exact h
        | 12, h => exact h
        | _ + 14, h => exact h
      case hop =>
        intro ix hix
        match ix, hix with
        | 0, _ =>
          intro o a1 w1 ho hb hf hp
          obtain rfl := Option.some.inj ho.symm
          have f4 : a1.tmps.getD 4 undef = u4 := hf 4 (by kernel_rfl)
          simp only [Array.getD_eq_getD_getElem?] at f4
          refine owes_value (v := u4) (w' := w1) ?_ rfl (Below.refl _ _)
          go_simp
        | 1, _ =>
          intro o a1 w1 ho hb hf hp
          obtain rfl := Option.some.inj ho.symm
          have f3 : a1.tmps.getD 3 undef = .string ⟨#[48, 49, 50, 51, 52, 53, 54, 55, 56, 57, 97, 98, 99, 100, 101, 102]⟩ := hf 3 (by kernel_rfl)
          simp only [Array.getD_eq_getD_getElem?] at f3
          refine owes_value (v := .string ⟨#[48, 49, 50, 51, 52, 53, 54, 55, 56, 57, 97, 98, 99, 100, 101, 102]⟩) (w' := w1) ?_ rfl (Below.refl _ _)
          go_simp
        | 2, _ =>
          intro o a1 w1 ho hb hf hp
          obtain rfl := Option.some.inj ho.symm
          have f0 : a1.tmps.getD 0 undef = str bs := hf 0 (by kernel_rfl)
          simp only [Array.getD_eq_getD_getElem?] at f0
          refine owes_value (v := str bs) (w' := w1) ?_ rfl (Below.refl _ _)
          go_simp
        | 3, _ =>
          intro o a1 w1 ho hb hf hp
          obtain rfl := Option.some.inj ho.symm
          have f5 : a1.tmps.getD 5 undef = .int .i64 (i : Int) := hf 5 (by kernel_rfl)
          simp only [Array.getD_eq_getD_getElem?] at f5
          refine owes_value (v := .int .i64 (i : Int)) (w' := w1) ?_ rfl (Below.refl _ _)
          go_simp
        | 4, _ =>
          intro o a1 w1 ho hb hf hp
          obtain rfl := Option.some.inj ho.symm
          have p2 : a1.tmps.getD 14 undef = str bs := hp 2 14 (by kernel_rfl) rfl
          have p3 : a1.tmps.getD 15 undef = .int .i64 (i : Int) := hp 3 15 (by kernel_rfl) rfl
          simp only [Array.getD_eq_getD_getElem?] at p2 p3
          refine owes_value (v := byv x) (w' := w1) ?_ rfl (Below.refl _ _)
          go_simp
        | 5, _ =>
          intro o a1 w1 ho hb hf hp
          obtain rfl := Option.some.inj ho.symm
          have p4 : a1.tmps.getD 16 undef = byv x := hp 4 16 (by kernel_rfl) rfl
          simp only [Array.getD_eq_getD_getElem?] at p4
          refine owes_value (v := .int .u8 (p : Int)) (w' := w1) ?_ rfl (Below.refl _ _)
          go_simp
          exact IntWalk.u8_in _ (by omega)
        | 6, _ =>
          intro o a1 w1 ho hb hf hp
          obtain rfl := Option.some.inj ho.symm
          have p1 : a1.tmps.getD 13 undef = .string ⟨#[48, 49, 50, 51, 52, 53, 54, 55, 56, 57, 97, 98, 99, 100, 101, 102]⟩ := hp 1 13 (by kernel_rfl) rfl
          have p5 : a1.tmps.getD 17 undef = .int .u8 (p : Int) := hp 5 17 (by kernel_rfl) rfl
          simp only [Array.getD_eq_getD_getElem?] at p1 p5
          refine owes_value (v := byv y) (w' := w1) ?_ rfl (Below.refl _ _)
          go_simp
        | 7, _ =>
          intro o a1 w1 ho hb hf hp
          obtain rfl := Option.some.inj ho.symm
          have f3 : a1.tmps.getD 3 undef = .string ⟨#[48, 49, 50, 51, 52, 53, 54, 55, 56, 57, 97, 98, 99, 100, 101, 102]⟩ := hf 3 (by kernel_rfl)
          simp only [Array.getD_eq_getD_getElem?] at f3
          refine owes_value (v := .string ⟨#[48, 49, 50, 51, 52, 53, 54, 55, 56, 57, 97, 98, 99, 100, 101, 102]⟩) (w' := w1) ?_ rfl (Below.refl _ _)
          go_simp
        | 8, _ =>
          intro o a1 w1 ho hb hf hp
          obtain rfl := Option.some.inj ho.symm
          have f0 : a1.tmps.getD 0 undef = str bs := hf 0 (by kernel_rfl)
          simp only [Array.getD_eq_getD_getElem?] at f0
          refine owes_value (v := str bs) (w' := w1) ?_ rfl (Below.refl _ _)
          go_simp
        | 9, _ =>
          intro o a1 w1 ho hb hf hp
          obtain rfl := Option.some.inj ho.symm
          have f5 : a1.tmps.getD 5 undef = .int .i64 (i : Int) := hf 5 (by kernel_rfl)
          simp only [Array.getD_eq_getD_getElem?] at f5
          refine owes_value (v := .int .i64 (i : Int)) (w' := w1) ?_ rfl (Below.refl _ _)
          go_simp
        | 10, _ =>
          intro o a1 w1 ho hb hf hp
          obtain rfl := Option.some.inj ho.symm
          have p8 : a1.tmps.getD 20 undef = str bs := hp 8 20 (by kernel_rfl) rfl
          have p9 : a1.tmps.getD 21 undef = .int .i64 (i : Int) := hp 9 21 (by kernel_rfl) rfl
          simp only [Array.getD_eq_getD_getElem?] at p8 p9
          refine owes_value (v := byv x) (w' := w1) ?_ rfl (Below.refl _ _)
          go_simp
        | 11, _ =>
          intro o a1 w1 ho hb hf hp
          obtain rfl := Option.some.inj ho.symm
          have p10 : a1.tmps.getD 22 undef = byv x := hp 10 22 (by kernel_rfl) rfl
          simp only [Array.getD_eq_getD_getElem?] at p10
          refine owes_value (v := .int .u8 (q : Int)) (w' := w1) ?_ rfl (Below.refl _ _)
          go_simp
          rw [Int.tmod_eq_emod_of_nonneg (by omega)]; exact hq
        | 12, _ =>
          intro o a1 w1 ho hb hf hp
          obtain rfl := Option.some.inj ho.symm
          have p7 : a1.tmps.getD 19 undef = .string ⟨#[48, 49, 50, 51, 52, 53, 54, 55, 56, 57, 97, 98, 99, 100, 101, 102]⟩ := hp 7 19 (by kernel_rfl) rfl
          have p11 : a1.tmps.getD 23 undef = .int .u8 (q : Int) := hp 11 23 (by kernel_rfl) rfl
          simp only [Array.getD_eq_getD_getElem?] at p7 p11
          refine owes_value (v := byv z) (w' := w1) ?_ rfl (Below.refl _ _)
          go_simp
        | 13, _ =>
          intro o a1 w1 ho hb hf hp
          obtain rfl := Option.some.inj ho.symm
          have p6 : a1.tmps.getD 18 undef = byv y := hp 6 18 (by kernel_rfl) rfl
          have p12 : a1.tmps.getD 24 undef = byv z := hp 12 24 (by kernel_rfl) rfl
          simp only [Array.getD_eq_getD_getElem?] at p6 p12
          refine owes_value (v := .slice (some ⟨w1.heap.size, 0, none⟩) 2 2) (w' := w1.alloc (.cells #[byv y, byv z] 5)) ?_ (sl_new _ _ _ 2 rfl (by decide)) ((Below.refl _ _).alloc (Nat.le_refl _) _)
          go_simp
      case hend =>
      intro vs w2 hb2 hp2
      have p0 : vs 0 = u4 := hp2 0 (by omega)
      have p13 : Sl w2 1 (vs 13) 2 [byv y, byv z] := hp2 13 (by omega)
      clear hp2
      simp only [putAll, List.drop_succ_cons, List.drop_zero, p0, List.getElem?_cons_zero, List.getElem?_cons_succ, Option.bind_some, Act.put, List.setIfInBounds_toArray, List.set_cons_zero, List.set_cons_succ]
      have how2 : w2.ownsRow w.heap.size 5 1 u4 (2 * i) ((hexF (bs.take i)).map byv) := how.below (show Below wr.heap.size wr w2 from ((Below.refl wr.heap.size wr).drew.trans hb2))
      go_wp2_with (refine wpList_append_sl rfl _ _ 22 rfl w.heap.size 5 (.int .u8 0) 1 1 Tryd.underlying22 info5 rfl (by decide) _ (2 * i) _ rfl how2 _ 2 [byv y, byv z] rfl p13 (by simp [Value.oneCell']) (by unfold maxLen; omega) (by omega) (by have := hb2.size; simp at this; omega) ?_)
      intro v' w' hown' hg
      go_wp2
      go_roundw
      case rel =>
        have e : hexF (bs.take (i + 1)) = hexF (bs.take i) ++ [y, z] := by
          rw [List.take_succ_eq_append_getElem hil, hexF, List.flatMap_append, Hy.out, Hz.out, Hp.out, Hq.out, Hx.out]
          simp [hexF, hil]
        refine ⟨i + 1, by omega, by go_num, ?_, ?_⟩
        · rw [e, show 2 * (i + 1) = 2 * i + 2 by omega]; simpa using hown'
        · exact hbw.trans (grown_below (show Below w.heap.size wr w2 from (show Below wr.heap.size wr w2 from ((Below.refl wr.heap.size wr).drew.trans hb2)).mono hz) how2 hg (by have := hb2.size; simp at this; omega))
      case measure => simp [intOf]; omega
    · obtain rfl : i = bs.length := by omega
      rw [List.take_length] at how
      have hlen : (hexF bs).length = 2 * bs.length := by
        have := how.1; simpa using this
      rw [← hlen] at how
      have hcv := conv22 wr u4 (hexF bs) (Sl.of_owns how)
      clear how hlen
      go_wp2
      go_ret
      exact ⟨rfl, hbw⟩
end Go.Proofs.YtcdgpkhfflehjaaDoor
