/- label: sets, numbers, and the comparisons of lists. -/
import Derived.Test.YtcbmifaobdamhaaRows
import Derived.Test.YtcbmifaobdamhaaIb
import Derived.Test.YtcbmifaobdamhaaOwn
import Derived.Test.YtcbmifaobdamhaaOw
import Derived.Test.YtcbmifaobdamhaaOn
import Derived.Test.YtcbmifaobdamhaaCf
namespace Go.Theory
open Go.Ib
/-- a number of a word -/
def rg (z : Int) : Prop := -9223372036854775808 ≤ z ∧ z ≤ 9223372036854775807
/-- p is a part of s -/
def sub (p s : Int) : Bool := decide (B p &&& ~~~B s = 0#64)
theorem wrap_rg (x : Int) : rg (IntKind.i64.wrap x) := by
  unfold rg
  simp only [IntKind.wrap, IntKind.bits, IntKind.signed]
  simp
  split <;> omega
theorem bits_rg (o : BinOp) (a b : Int) : rg (bits o .i64 a b) := wrap_rg _
theorem rg0 : rg 0 := by unfold rg; omega
theorem B0 : B 0 = 0#64 := rfl
theorem sub_andNot (p s : Int) : (bits .andNot .i64 p s == 0) = sub p s := by
  unfold sub
  by_cases h : bits .andNot .i64 p s = 0
  · have h2 := B_andNot p s
    rw [h, B0] at h2
    simp [h, ← h2]
  · have : ¬ (B p &&& ~~~B s = 0#64) := fun h2 => h (B_inj (bits_rg _ _ _) rg0 (by rw [B_andNot, h2]; rfl))
    simp [h, this]
theorem sub_or (p s : Int) (hs : rg s) : (bits .or .i64 p s == s) = sub p s := by
  unfold sub
  by_cases h : bits .or .i64 p s = s
  · have h2 := B_or p s
    rw [h] at h2
    simp [h, (sub_iff _ _).2 h2.symm]
  · have : ¬ (B p &&& ~~~B s = 0#64) := fun h2 => h (B_inj (bits_rg _ _ _) hs (by rw [B_or]; exact (sub_iff _ _).1 h2))
    simp [h, this]
end Go.Theory
namespace Go.Theory
open Go.Own Go.RowKit
theorem rg_nat {s : Nat} (h : s < 65536) : rg s := by unfold rg; omega
def vInt : Value → Int | .int _ q => q | _ => 0
theorem sl_at {w : World} {n cap : Nat} {sa : Option Addr} {vs : List Value} (h : Sl w 1 (.slice sa n cap) n vs) (hn : 0 < n) :
    ∃ b off, sa = some ⟨b, off, none⟩ ∧ n ≤ cap ∧ cap ≤ maxLen ∧ Cells w b off vs ∧ b < w.heap.size := by
  obtain ⟨_, ⟨h2, h3⟩ | ⟨b, off, cap', h2, h3, h4, h5, h6⟩⟩ := h
  · omega
  · injection h2 with h2 _ h7
    subst h7
    exact ⟨b, off, h2, h3, h4, h5, h6⟩
/-- the number that Around makes -/
def around (x n : Int) : Int := (if x < 0 then -(x + 1) else x) % n
theorem around_rg (x : Int) {n : Nat} (hn : 0 < n) : ∃ k : Nat, around x n = k ∧ k < n := by
  have h1 := Int.emod_nonneg (if x < 0 then -(x + 1) else x) (b := (n : Int)) (by omega)
  have h2 := Int.emod_lt_of_pos (if x < 0 then -(x + 1) else x) (b := (n : Int)) (by omega)
  unfold around
  exact ⟨((if x < 0 then -(x + 1) else x) % (n : Int)).toNat, by omega, by omega⟩
end Go.Theory
namespace Go.Own
theorem take_succ_eq {α : Type} {la lb : List α} {k : Nat} (h1 : k < la.length) (h2 : k < lb.length) (h : la.take k = lb.take k) (he : la[k] = lb[k]) : la.take (k + 1) = lb.take (k + 1) := by
  rw [List.take_succ_eq_append_getElem h1, List.take_succ_eq_append_getElem h2, h, he]
theorem ne_of_get {α : Type} {la lb : List α} {k : Nat} (h1 : k < la.length) (h2 : k < lb.length) (he : la[k] ≠ lb[k]) : la ≠ lb := by
  intro e; subst e; exact he rfl
end Go.Own
namespace Go.Proofs.Ytcbmifaobdamhaa
open Go.RowKit Go.Own Go.Theory Go.BigFrame
theorem around_any (x n : Int) (hx : rg x) (hn : 1 ≤ n ∧ n ≤ 1000000) (w : World) : Calls Try.prog 21 #[.int .i64 x, .int .i64 n] w fun e w' => e = .returned (.int .i64 (around x n)) ∧ w' = w := by
  unfold rg at hx
  have hz : (n == 0) = false := by simp; omega
  by_cases h : x < 0
  · have e : around x n = -(x + 1).tmod n := by unfold around; rw [if_pos h, ← Int.neg_tmod, Int.tmod_eq_emod_of_nonneg (by omega)]
    have e1 : wrap64 (x + 1) = x + 1 := Go.IntWalk.wrap64_in _ (by omega)
    have e2 : wrap64 (-(x + 1)) = -(x + 1) := Go.IntWalk.wrap64_in _ (by omega)
    have E := Lib.hid e; clear e
    go_enter Try.func21, Try.ntmps21
    go_wp2
    go_ret
    rw [E.out]
    exact ⟨rfl, rfl⟩
  · have e : around x n = x % n := by unfold around; rw [if_neg h]
    have E := Lib.hid e; clear e
    go_enter Try.func21, Try.ntmps21
    go_wp2
    go_ret
    rw [E.out]
    exact ⟨rfl, rfl⟩
set_option maxRecDepth 100000 in
theorem same_any (la lb : List Int) (sa sb : Option Addr) (ca cb : Nat) (w : World) (ha : Sl w 1 (.slice sa la.length ca) la.length (la.map (.int .i64))) (hb : Sl w 1 (.slice sb lb.length cb) lb.length (lb.map (.int .i64))) (hm : la.length ≤ 1000000 ∨ lb.length ≤ 1000000) :
    Calls Try.prog 20 #[.slice sa la.length ca, .slice sb lb.length cb] w fun e w' => e = .returned (.bool (la == lb)) ∧ Below w.heap.size w w' := by
  go_enter Try.func20, Try.ntmps20
  by_cases hl : la.length = lb.length
  · have hl' : ((la.length : Int) != (lb.length : Int)) = false := by simp [hl]
    go_wp2
    go_loopw [5] (fun c wr => ∃ k : Nat, k ≤ la.length ∧ c = .int .i64 k ∧ la.take k = lb.take k ∧ Below w.heap.size w wr) (fun c _ => la.length - (vInt c).toNat)
    case atStart => exact ⟨0, by omega, rfl, rfl, Below.refl _ _⟩
    case round =>
      obtain ⟨k, hk, rfl, he, hbr⟩ := hrel
      by_cases hkl : k < la.length
      · have hkl2 : k < lb.length := by omega
        obtain ⟨ba, oa, rfl, _, _, hCa, hal⟩ := sl_at ha (by omega)
        obtain ⟨bb, ob, rfl, _, _, hCb, hbl⟩ := sl_at hb (by omega)
        obtain ⟨x, hx⟩ : ∃ x, x = la[k] := ⟨_, rfl⟩
        obtain ⟨y, hy⟩ : ∃ y, y = lb[k] := ⟨_, rfl⟩
        have cx : wr.cell? ⟨ba, oa + k, none⟩ = some (.int .i64 x) := (hCa.below hbr hal) k _ (by simp [hkl, hx])
        have cy : wr.cell? ⟨bb, ob + k, none⟩ = some (.int .i64 y) := (hCb.below hbr hbl) k _ (by simp [hkl2, hy])
        have HX := Lib.hid hx; clear hx
        have HY := Lib.hid hy; clear hy
        by_cases hxy : x = y
        · subst hxy
          have ht := take_succ_eq hkl hkl2 he (by rw [← HX.out, ← HY.out])
          go_wp2
          go_quiet (fail)
          go_wp2
          go_roundw
          case rel => exact ⟨k + 1, by omega, by go_num, ht, below_drewN hbr _⟩
          case measure => simp [vInt]; omega
        · have hq : (x == y) = false := by simpa using hxy
          have hq2 : (x != y) = true := by simpa using hxy
          have hne : (la == lb) = false := by
            have := ne_of_get hkl hkl2 (by rw [← HX.out, ← HY.out]; exact hxy)
            simpa using this
          clear hxy
          go_wp2
          go_quiet (fail)
          go_wp2
          go_ret
          rw [hne]
          exact ⟨rfl, below_drewN hbr _⟩
      · have e : la = lb := by rwa [List.take_of_length_le (by omega), List.take_of_length_le (by omega)] at he
        have hq : (la == lb) = true := by simpa using e
        clear e he
        go_wp2
        go_ret
        rw [hq]
        exact ⟨rfl, hbr⟩
  · have hl' : ((la.length : Int) != (lb.length : Int)) = true := by simp; omega
    have hne : (la == lb) = false := by
      have : la ≠ lb := fun e => hl (by rw [e])
      simpa using this
    go_wp2
    go_ret
    rw [hne]
    exact ⟨rfl, Below.refl _ _⟩
set_option maxRecDepth 100000 in
theorem sameBools_any (la lb : List Bool) (sa sb : Option Addr) (ca cb : Nat) (w : World) (ha : Sl w 1 (.slice sa la.length ca) la.length (la.map Value.bool)) (hb : Sl w 1 (.slice sb lb.length cb) lb.length (lb.map Value.bool)) (hm : la.length ≤ 1000000 ∨ lb.length ≤ 1000000) :
    Calls Try.prog 14 #[.slice sa la.length ca, .slice sb lb.length cb] w fun e w' => e = .returned (.bool (la == lb)) ∧ Below w.heap.size w w' := by
  go_enter Try.func14, Try.ntmps14
  by_cases hl : la.length = lb.length
  · have hl' : ((la.length : Int) != (lb.length : Int)) = false := by simp [hl]
    go_wp2
    go_loopw [5] (fun c wr => ∃ k : Nat, k ≤ la.length ∧ c = .int .i64 k ∧ la.take k = lb.take k ∧ Below w.heap.size w wr) (fun c _ => la.length - (vInt c).toNat)
    case atStart => exact ⟨0, by omega, rfl, rfl, Below.refl _ _⟩
    case round =>
      obtain ⟨k, hk, rfl, he, hbr⟩ := hrel
      by_cases hkl : k < la.length
      · have hkl2 : k < lb.length := by omega
        obtain ⟨ba, oa, rfl, _, _, hCa, hal⟩ := sl_at ha (by omega)
        obtain ⟨bb, ob, rfl, _, _, hCb, hbl⟩ := sl_at hb (by omega)
        obtain ⟨x, hx⟩ : ∃ x, x = la[k] := ⟨_, rfl⟩
        obtain ⟨y, hy⟩ : ∃ y, y = lb[k] := ⟨_, rfl⟩
        have cx : wr.cell? ⟨ba, oa + k, none⟩ = some (.bool x) := (hCa.below hbr hal) k _ (by simp [hkl, hx])
        have cy : wr.cell? ⟨bb, ob + k, none⟩ = some (.bool y) := (hCb.below hbr hbl) k _ (by simp [hkl2, hy])
        have HX := Lib.hid hx; clear hx
        have HY := Lib.hid hy; clear hy
        by_cases hxy : x = y
        · subst hxy
          have ht := take_succ_eq hkl hkl2 he (by rw [← HX.out, ← HY.out])
          go_wp2
          go_quiet (fail)
          go_wp2
          go_roundw
          case rel => exact ⟨k + 1, by omega, by go_num, ht, below_drewN hbr _⟩
          case measure => simp [vInt]; omega
        · have hq : (x == y) = false := by simpa using hxy
          have hq2 : (x != y) = true := by simpa using hxy
          have hne : (la == lb) = false := by
            have := ne_of_get hkl hkl2 (by rw [← HX.out, ← HY.out]; exact hxy)
            simpa using this
          clear hxy
          go_wp2
          go_quiet (fail)
          go_wp2
          go_ret
          rw [hne]
          exact ⟨rfl, below_drewN hbr _⟩
      · have e : la = lb := by rwa [List.take_of_length_le (by omega), List.take_of_length_le (by omega)] at he
        have hq : (la == lb) = true := by simpa using e
        clear e he
        go_wp2
        go_ret
        rw [hq]
        exact ⟨rfl, hbr⟩
  · have hl' : ((la.length : Int) != (lb.length : Int)) = true := by simp; omega
    have hne : (la == lb) = false := by
      have : la ≠ lb := fun e => hl (by rw [e])
      simpa using this
    go_wp2
    go_ret
    rw [hne]
    exact ⟨rfl, Below.refl _ _⟩
set_option maxRecDepth 100000 in
theorem sameInts_any (la lb : List Int) (sa sb : Option Addr) (ca cb : Nat) (w : World) (ha : Sl w 1 (.slice sa la.length ca) la.length (la.map (.int .i64))) (hb : Sl w 1 (.slice sb lb.length cb) lb.length (lb.map (.int .i64))) (hm : la.length ≤ 1000000 ∨ lb.length ≤ 1000000) :
    Calls Try.prog 26 #[.slice sa la.length ca, .slice sb lb.length cb] w fun e w' => e = .returned (.bool (la == lb)) ∧ Below w.heap.size w w' := by
  go_enter Try.func26, Try.ntmps26
  by_cases hl : la.length = lb.length
  · have hl' : ((la.length : Int) != (lb.length : Int)) = false := by simp [hl]
    go_wp2
    go_loopw [5] (fun c wr => ∃ k : Nat, k ≤ la.length ∧ c = .int .i64 k ∧ la.take k = lb.take k ∧ Below w.heap.size w wr) (fun c _ => la.length - (vInt c).toNat)
    case atStart => exact ⟨0, by omega, rfl, rfl, Below.refl _ _⟩
    case round =>
      obtain ⟨k, hk, rfl, he, hbr⟩ := hrel
      by_cases hkl : k < la.length
      · have hkl2 : k < lb.length := by omega
        obtain ⟨ba, oa, rfl, _, _, hCa, hal⟩ := sl_at ha (by omega)
        obtain ⟨bb, ob, rfl, _, _, hCb, hbl⟩ := sl_at hb (by omega)
        obtain ⟨x, hx⟩ : ∃ x, x = la[k] := ⟨_, rfl⟩
        obtain ⟨y, hy⟩ : ∃ y, y = lb[k] := ⟨_, rfl⟩
        have cx : wr.cell? ⟨ba, oa + k, none⟩ = some (.int .i64 x) := (hCa.below hbr hal) k _ (by simp [hkl, hx])
        have cy : wr.cell? ⟨bb, ob + k, none⟩ = some (.int .i64 y) := (hCb.below hbr hbl) k _ (by simp [hkl2, hy])
        have HX := Lib.hid hx; clear hx
        have HY := Lib.hid hy; clear hy
        by_cases hxy : x = y
        · subst hxy
          have ht := take_succ_eq hkl hkl2 he (by rw [← HX.out, ← HY.out])
          go_wp2
          go_quiet (fail)
          go_wp2
          go_roundw
          case rel => exact ⟨k + 1, by omega, by go_num, ht, below_drewN hbr _⟩
          case measure => simp [vInt]; omega
        · have hq : (x == y) = false := by simpa using hxy
          have hq2 : (x != y) = true := by simpa using hxy
          have hne : (la == lb) = false := by
            have := ne_of_get hkl hkl2 (by rw [← HX.out, ← HY.out]; exact hxy)
            simpa using this
          clear hxy
          go_wp2
          go_quiet (fail)
          go_wp2
          go_ret
          rw [hne]
          exact ⟨rfl, below_drewN hbr _⟩
      · have e : la = lb := by rwa [List.take_of_length_le (by omega), List.take_of_length_le (by omega)] at he
        have hq : (la == lb) = true := by simpa using e
        clear e he
        go_wp2
        go_ret
        rw [hq]
        exact ⟨rfl, hbr⟩
  · have hl' : ((la.length : Int) != (lb.length : Int)) = true := by simp; omega
    have hne : (la == lb) = false := by
      have : la ≠ lb := fun e => hl (by rw [e])
      simpa using this
    go_wp2
    go_ret
    rw [hne]
    exact ⟨rfl, Below.refl _ _⟩
end Go.Proofs.Ytcbmifaobdamhaa
/- label: a base in memory; Has, In, Is, is. -/
namespace Go.Label
/-- a rule -/
structure Rl where
  head : Int
  body : List Int
/-- a base -/
structure Lg where
  facts : Int
  assume : List Int
  rules : List Rl
end Go.Label
namespace Go.Theory
open Go.RowKit Go.Own Go.Ib
theorem and1 {s k : Nat} (hs : s < 9223372036854775808) : bits .and .i64 ((s : Int) / 2 ^ k) 1 = if s.testBit k then 1 else 0 := by
  have e0 : (s : Int) / 2 ^ k = ((s / 2 ^ k : Nat) : Int) := by simp
  have h1 : s / 2 ^ k ≤ s := Nat.div_le_self _ _
  rw [e0, show (1 : Int) = ((1 : Nat) : Int) from rfl, b_and _ _ (by omega) (by omega), Nat.and_one_is_mod, Nat.testBit_eq_decide_div_mod_eq]
  by_cases h : s / 2 ^ k % 2 = 1
  · simp [h]
  · have : s / 2 ^ k % 2 = 0 := by omega
    simp [this]
theorem sub_and (p s : Int) (hp : rg p) : (bits .and .i64 p s == p) = sub p s := by
  unfold sub
  have key : (B p &&& ~~~B s = 0#64) ↔ (B p &&& B s = B p) := by
    constructor
    · intro h
      have h2 : (B p &&& B s) ||| (B p &&& ~~~B s) = B p := by
        apply BitVec.eq_of_getLsbD_eq
        intro i hi
        simp only [BitVec.getLsbD_or, BitVec.getLsbD_and, BitVec.getLsbD_not, hi, decide_true, Bool.true_and]
        cases (B p).getLsbD i <;> cases (B s).getLsbD i <;> rfl
      rw [h] at h2
      simpa using h2
    · intro h
      rw [← h, BitVec.and_assoc]
      simp
  by_cases h : bits .and .i64 p s = p
  · have h2 := B_and p s
    rw [h] at h2
    simp [h, key.2 h2.symm]
  · have : ¬ (B p &&& ~~~B s = 0#64) := fun h2 => h (B_inj (bits_rg _ _ _) hp (by rw [B_and]; exact key.1 h2))
    simp [h, this]
end Go.Theory
namespace Go.Proofs.Ytcbmifaobdamhaa
open Go.RowKit Go.Own Go.Theory Go.BigFrame Go.Ib Go.Label
theorem in_any (p s : Int) (hp : rg p) (w : World) : Calls Try.prog 60 #[.int .i64 p, .int .i64 s] w fun e w' => e = .returned (.bool (sub p s)) ∧ w' = w := by
  rw [← sub_and p s hp]
  go_enter Try.func60, Try.ntmps60
  go_wp2
  go_ret
  exact ⟨rfl, rfl⟩
theorem has_any (s k : Nat) (hs : s < 9223372036854775808) (hk : k < 62) (w : World) : Calls Try.prog 51 #[.int .i64 s, .int .i64 k] w fun e w' => e = .returned (.bool (s.testBit k)) ∧ w' = w := by
  have h := and1 (k := k) hs
  cases hb : s.testBit k with
  | true =>
    rw [hb, if_pos rfl] at h
    go_enter Try.func51, Try.ntmps51
    go_wp2
    go_ret
    exact ⟨rfl, rfl⟩
  | false =>
    rw [hb, if_neg Bool.false_ne_true] at h
    go_enter Try.func51, Try.ntmps51
    go_wp2
    go_ret
    exact ⟨rfl, rfl⟩
end Go.Proofs.Ytcbmifaobdamhaa
/- label: a base in memory; is, Is. -/
namespace Go.Label
open Go.RowKit Go.Own
/-- the cells of the rules -/
def cells2 : List Rl → List Value → List Value
  | r :: rs, v :: vs => .int .i64 r.head :: v :: cells2 rs vs
  | _, _ => []
/-- a slice that reads where it is not empty -/
def Sz (w : World) (v : Value) (n : Nat) (vs : List Value) : Prop := 0 < n → Sl w 1 v n vs
theorem Sz.below {w w' : World} {v : Value} {n : Nat} {vs : List Value} (h : Sz w v n vs) (hb : Below w.heap.size w w') : Sz w' v n vs := fun h0 => (h h0).below hb
theorem Sz.of {w : World} {v : Value} {n : Nat} {vs : List Value} (h : Sl w 1 v n vs) : Sz w v n vs := fun _ => h
/-- a base lies at the slices -/
structure LgAt (w : World) (b : Lg) (sa sr : Option Addr) (ca cr : Nat) (bs : List Value) : Prop where
  asm : Sz w (.slice sa b.assume.length ca) b.assume.length (b.assume.map (.int .i64))
  rs : 0 < b.rules.length → Sl w 2 (.slice sr b.rules.length cr) b.rules.length (cells2 b.rules bs)
  bl : bs.length = b.rules.length
  bd : ∀ i (h : i < b.rules.length) (h2 : i < bs.length), ∃ sb cb, bs[i] = .slice sb (b.rules[i].body.length) cb ∧ Sz w (.slice sb (b.rules[i].body.length) cb) (b.rules[i].body.length) (b.rules[i].body.map (.int .i64))
theorem LgAt.below {w w' : World} {b : Lg} {sa sr : Option Addr} {ca cr : Nat} {bs : List Value} (h : LgAt w b sa sr ca cr bs) (hb : Below w.heap.size w w') : LgAt w' b sa sr ca cr bs :=
  ⟨h.asm.below hb, fun h0 => (h.rs h0).below hb, h.bl, fun i h1 h2 => by
    obtain ⟨sb, cb, e, hs⟩ := h.bd i h1 h2
    exact ⟨sb, cb, e, hs.below hb⟩⟩
/-- the value of a base -/
def lgV (b : Lg) (sa sr : Option Addr) (ca cr : Nat) : Value := .agg #[.int .i64 b.facts, .slice sa b.assume.length ca, .slice sr b.rules.length cr]
end Go.Label
namespace Go.Theory
open Go.RowKit
theorem pow16 {n : Nat} (h : n ≤ 16) : (2 : Nat) ^ n ≤ 65536 := Nat.pow_le_pow_right (n := 2) (by omega) h
theorem wrap_pow {n : Nat} (h : n ≤ 16) : wrap64 ((2 : Int) ^ n) = ((2 ^ n : Nat) : Int) := by
  have h1 := pow16 h
  rw [show ((2 : Int) ^ n) = ((2 ^ n : Nat) : Int) by simp]
  generalize (2 : Nat) ^ n = m at h1 ⊢
  exact Go.IntWalk.wrap64_in _ (by omega)
end Go.Theory
namespace Go.Proofs.Ytcbmifaobdamhaa
open Go.RowKit Go.Own Go.Theory Go.BigFrame Go.Ib Go.Label
/-- a set of assumptions -/
def isB (b : Lg) (s : Int) : Bool := decide (0 ≤ s) && decide (s < ((2 ^ b.assume.length : Nat) : Int))
theorem pis_any (b : Lg) (s : Int) (sa sr : Option Addr) (ca cr : Nat) (h16 : b.assume.length ≤ 16) (w : World) : Calls Try.prog 34 #[lgV b sa sr ca cr, .int .i64 s] w fun e w' => e = .returned (.bool (isB b s)) ∧ Below w.heap.size w w' := by
  have hwp := wrap_pow h16
  unfold isB
  obtain ⟨M, hM⟩ : ∃ M, M = 2 ^ b.assume.length := ⟨_, rfl⟩
  rw [← hM] at hwp ⊢
  clear hM
  unfold lgV
  have hb := alloc_below w (.cells #[.int .i64 b.facts, .slice sa b.assume.length ca, .slice sr b.rules.length cr] 25)
  by_cases h : 0 ≤ s
  · have h' : decide (0 ≤ s) = true := decide_eq_true h
    go_enter Try.func34, Try.ntmps34
    go_wp2
    go_ret
    exact ⟨by rw [h', Bool.true_and]; rfl, hb⟩
  · have h' : decide (0 ≤ s) = false := decide_eq_false h
    go_enter Try.func34, Try.ntmps34
    go_wp2
    go_ret
    exact ⟨rfl, hb⟩
theorem ris_any (b : Lg) (s : Int) (sa sr : Option Addr) (ca cr : Nat) (h16 : b.assume.length ≤ 16) (w : World) : Calls Try.prog 29 #[lgV b sa sr ca cr, .int .i64 s] w fun e w' => e = .returned (.bool (isB b s)) ∧ Below w.heap.size w w' := by
  have hwp := wrap_pow h16
  unfold isB
  obtain ⟨M, hM⟩ : ∃ M, M = 2 ^ b.assume.length := ⟨_, rfl⟩
  rw [← hM] at hwp ⊢
  clear hM
  unfold lgV
  have hb := alloc_below w (.cells #[.int .i64 b.facts, .slice sa b.assume.length ca, .slice sr b.rules.length cr] 25)
  by_cases h : 0 ≤ s
  · have h' : decide (0 ≤ s) = true := decide_eq_true h
    go_enter Try.func29, Try.ntmps29
    go_wp2
    go_ret
    exact ⟨by rw [h', Bool.true_and]; rfl, hb⟩
  · have h' : decide (0 ≤ s) = false := decide_eq_false h
    go_enter Try.func29, Try.ntmps29
    go_wp2
    go_ret
    exact ⟨rfl, hb⟩
end Go.Proofs.Ytcbmifaobdamhaa
/- label: valid bases, in plain words. -/
namespace Go.Label
/-- no fact of a base with so many -/
def noB (F f : Int) : Bool := decide (f < 0) || decide (F ≤ f)
def longR (r : Rl) : Bool := decide (16 < r.body.length)
def badR (F : Int) (r : Rl) : Bool := (decide (r.head < -1) || decide (F ≤ r.head)) || r.body.any (noB F)
/-- assumptions: facts, each greater than the one before -/
def upB : List Int → Bool
  | [] => true
  | [_] => true
  | x :: y :: r => decide (x < y) && upB (y :: r)
/-- the error of a base -/
def valE (b : Lg) : Int :=
  if 64 < b.facts ∨ 16 < b.assume.length ∨ 64 < b.rules.length ∨ b.rules.any longR = true then 4
  else if b.facts < 0 ∨ b.assume.any (noB b.facts) = true ∨ upB b.assume = false ∨ b.rules.any (badR b.facts) = true then 1 else 0
theorem upB_at : ∀ (l : List Int), upB l = true ↔ ∀ i (h : i + 1 < l.length), l[i] < l[i + 1]
  | [] => by simp [upB]
  | [x] => by simp [upB]
  | x :: y :: r => by
    have ih := upB_at (y :: r)
    simp only [upB, Bool.and_eq_true, decide_eq_true_eq, ih]
    constructor
    · rintro ⟨h1, h2⟩ i hi
      match i with
      | 0 => exact h1
      | i + 1 => exact h2 i (by simpa using hi)
    · intro h
      exact ⟨h 0 (by simp), fun i hi => h (i + 1) (by simpa using hi)⟩
/-- A valid base. -/
structure Ok (b : Lg) : Prop where
  f0 : 0 ≤ b.facts
  f64 : b.facts ≤ 64
  a16 : b.assume.length ≤ 16
  r64 : b.rules.length ≤ 64
  long : ∀ r ∈ b.rules, r.body.length ≤ 16
  asm : ∀ a ∈ b.assume, 0 ≤ a ∧ a < b.facts
  up : ∀ i (h : i + 1 < b.assume.length), b.assume[i] < b.assume[i + 1]
  head : ∀ r ∈ b.rules, -1 ≤ r.head ∧ r.head < b.facts
  body : ∀ r ∈ b.rules, ∀ f ∈ r.body, 0 ≤ f ∧ f < b.facts
theorem noB_false {F f : Int} : noB F f = false ↔ 0 ≤ f ∧ f < F := by
  unfold noB
  rw [Bool.or_eq_false_iff, decide_eq_false_iff_not, decide_eq_false_iff_not]
  omega
theorem valE_ok {b : Lg} : valE b = 0 ↔ Ok b := by
  unfold valE
  constructor
  · intro h
    split at h
    · cases h
    · rename_i h1
      split at h
      · cases h
      · rename_i h2
        have a1 : ¬ b.rules.any longR = true := fun e => h1 (.inr (.inr (.inr e)))
        have a2 : ¬ b.assume.any (noB b.facts) = true := fun e => h2 (.inr (.inl e))
        have a3 : ¬ upB b.assume = false := fun e => h2 (.inr (.inr (.inl e)))
        have a4 : ¬ b.rules.any (badR b.facts) = true := fun e => h2 (.inr (.inr (.inr e)))
        rw [Bool.not_eq_true, List.any_eq_false] at a1 a2 a4
        have hb : ∀ r ∈ b.rules, (-1 ≤ r.head ∧ r.head < b.facts) ∧ ∀ f ∈ r.body, 0 ≤ f ∧ f < b.facts := fun r hr => by
          have h := a4 r hr
          rw [Bool.not_eq_true] at h
          unfold badR at h
          rw [Bool.or_eq_false_iff, Bool.or_eq_false_iff, decide_eq_false_iff_not, decide_eq_false_iff_not, List.any_eq_false] at h
          exact ⟨by omega, fun f hf => noB_false.1 (by have := h.2 f hf; rwa [Bool.not_eq_true] at this)⟩
        refine ⟨?_, ?_, ?_, ?_, fun r hr => ?_, fun a ha => noB_false.1 (by have := a2 a ha; rwa [Bool.not_eq_true] at this), (upB_at _).1 (by simpa using a3), fun r hr => (hb r hr).1, fun r hr => (hb r hr).2⟩
        · exact Int.not_lt.1 fun e => h2 (.inl e)
        · exact Int.not_lt.1 fun e => h1 (.inl e)
        · exact Nat.not_lt.1 fun e => h1 (.inr (.inl e))
        · exact Nat.not_lt.1 fun e => h1 (.inr (.inr (.inl e)))
        · have h := a1 r hr
          unfold longR at h
          simp only [decide_eq_true_eq] at h
          omega
  · intro h
    rw [if_neg, if_neg]
    · rintro (e | e | e | e)
      · have := h.f0; omega
      · obtain ⟨a, ha, e⟩ := List.any_eq_true.1 e
        rw [noB_false.2 (h.asm a ha)] at e; cases e
      · rw [(upB_at _).2 h.up] at e; cases e
      · obtain ⟨r, hr, e⟩ := List.any_eq_true.1 e
        unfold badR at e
        have h1 := h.head r hr
        rw [decide_eq_false (by omega), decide_eq_false (by omega), Bool.or_self, Bool.false_or] at e
        obtain ⟨f, hf, e⟩ := List.any_eq_true.1 e
        rw [noB_false.2 (h.body r hr f hf)] at e; cases e
    · rintro (e | e | e | e)
      · have := h.f64; omega
      · have := h.a16; omega
      · have := h.r64; omega
      · obtain ⟨r, hr, e⟩ := List.any_eq_true.1 e
        unfold longR at e
        have := h.long r hr
        have := of_decide_eq_true e
        omega
end Go.Label
/- label: what the cells of a base say. -/
namespace Go.Label
open Go.RowKit Go.Own Go.Theory
theorem cells2_get : ∀ (rs : List Rl) (bs : List Value) (i : Nat) (h : i < rs.length) (h2 : i < bs.length), (cells2 rs bs)[i * 2]? = some (.int .i64 rs[i].head) ∧ (cells2 rs bs)[i * 2 + 1]? = some bs[i]
  | [], _, i, h, _ => absurd h (by simp)
  | _ :: _, [], i, _, h => absurd h (by simp)
  | r :: rs, v :: vs, 0, _, _ => by simp [cells2]
  | r :: rs, v :: vs, i + 1, h, h2 => by
    have ih := cells2_get rs vs i (by simpa using h) (by simpa using h2)
    simp only [cells2, List.getElem_cons_succ]
    rw [show (i + 1) * 2 = i * 2 + 1 + 1 by omega]
    simpa using ih
theorem LgAt.rule {w : World} {b : Lg} {sa sr : Option Addr} {ca cr : Nat} {bs : List Value} (h : LgAt w b sa sr ca cr bs) {i : Nat} (hi : i < b.rules.length) :
    ∃ g o sb cb, sr = some ⟨g, o, none⟩ ∧ (∀ W, Below w.heap.size w W → W.cell? ⟨g, o + i * 2, none⟩ = some (.int .i64 b.rules[i].head) ∧ W.cell? ⟨g, o + i * 2 + 1, none⟩ = some (.slice sb b.rules[i].body.length cb)) ∧
      Sz w (.slice sb b.rules[i].body.length cb) b.rules[i].body.length (b.rules[i].body.map (.int .i64)) := by
  have h2 : i < bs.length := by rw [h.bl]; exact hi
  obtain ⟨sb, cb, e, hs⟩ := h.bd i hi h2
  obtain ⟨g1, g2⟩ := cells2_get b.rules bs i hi h2
  obtain ⟨_, ⟨_, h0⟩ | ⟨g, o, cap', e1, _, _, hC, hlt⟩⟩ := h.rs (by omega)
  · omega
  · injection e1 with e1 _ _
    subst e1
    refine ⟨g, o, sb, cb, rfl, fun W hW => ⟨?_, ?_⟩, hs⟩
    · exact (hC.below hW hlt) _ _ g1
    · rw [Nat.add_assoc]
      rw [e] at g2
      exact (hC.below hW hlt) _ _ g2
end Go.Label
