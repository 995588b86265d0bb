/- order: few, and what the laws' comparisons say of equal lists. -/
import Derived.Test.YtnkinjilnccmfaaQ34
namespace Go.Proofs.Ytnkinjilnccmfaa
open Go.RowKit Go.Own Go.BigFrame Go.Big Go.Order
theorem num_eqv (x : Num) : x.eqv x = true := by unfold Num.eqv; simp
theorem spl_eqv (x : Spl) : x.eqv x = true := by unfold Spl.eqv; simp [num_eqv]
theorem eqvL_self : ∀ l : List Spl, eqvL l l = true
  | [] => rfl
  | x :: l => by unfold eqvL; rw [spl_eqv, eqvL_self l]; rfl
def fewV (a b c : Nat) : Bool := decide (c ≤ 40) && (decide (a ≤ 60) && decide (b ≤ 60) || decide (4096 < a) || decide (4096 < b))
set_option maxRecDepth 100000 in
set_option maxHeartbeats 3200000 in
theorem few_any (s t u : Option Addr) (a b c ca cb cc : Nat) (w : World) :
    Calls Try.prog 9 #[.slice s a ca, .slice t b cb, .slice u c cc] w fun e w' => e = .returned (.bool (fewV a b c)) ∧ Below w.heap.size w w' := by
  by_cases h1 : c ≤ 40
  · have g1 : (40 < (c : Int)) = False := eq_false (by omega)
    by_cases h2 : a ≤ 60
    · have g2 : ((a : Int) ≤ 60) = True := eq_true (by omega)
      have g4 : (4096 < (a : Int)) = False := eq_false (by omega)
      by_cases h3 : b ≤ 60
      · have g3 : ((b : Int) ≤ 60) = True := eq_true (by omega)
        have hv : fewV a b c = true := by unfold fewV; simp [h1, h2, h3]
        go_enter Try.func9, Try.ntmps9
        go_wp2
        go_ret
        exact ⟨by rw [hv]; try rfl, Below.refl _ _⟩
      · have g3 : ((b : Int) ≤ 60) = False := eq_false (by omega)
        by_cases h5 : 4096 < b
        · have g5 : (4096 < (b : Int)) = True := eq_true (by omega)
          have hv : fewV a b c = true := by unfold fewV; simp [h1, h5]
          go_enter Try.func9, Try.ntmps9
          go_wp2
          go_ret
          exact ⟨by rw [hv]; try rfl, Below.refl _ _⟩
        · have g5 : (4096 < (b : Int)) = False := eq_false (by omega)
          have hv : fewV a b c = false := by unfold fewV; simp; omega
          go_enter Try.func9, Try.ntmps9
          go_wp2
          go_ret
          exact ⟨by rw [hv]; try rfl, Below.refl _ _⟩
    · have g2 : ((a : Int) ≤ 60) = False := eq_false (by omega)
      by_cases h4 : 4096 < a
      · have g4 : (4096 < (a : Int)) = True := eq_true (by omega)
        have hv : fewV a b c = true := by unfold fewV; simp [h1, h4]
        go_enter Try.func9, Try.ntmps9
        go_wp2
        go_ret
        exact ⟨by rw [hv]; try rfl, Below.refl _ _⟩
      · have g4 : (4096 < (a : Int)) = False := eq_false (by omega)
        by_cases h5 : 4096 < b
        · have g5 : (4096 < (b : Int)) = True := eq_true (by omega)
          have hv : fewV a b c = true := by unfold fewV; simp [h1, h5]
          go_enter Try.func9, Try.ntmps9
          go_wp2
          go_ret
          exact ⟨by rw [hv]; try rfl, Below.refl _ _⟩
        · have g5 : (4096 < (b : Int)) = False := eq_false (by omega)
          have hv : fewV a b c = false := by unfold fewV; simp; omega
          go_enter Try.func9, Try.ntmps9
          go_wp2
          go_ret
          exact ⟨by rw [hv]; try rfl, Below.refl _ _⟩
  · have g1 : (40 < (c : Int)) = True := eq_true (by omega)
    have hv : fewV a b c = false := by unfold fewV; simp; omega
    go_enter Try.func9, Try.ntmps9
    go_wp2
    go_ret
    exact ⟨by rw [hv]; try rfl, Below.refl _ _⟩
end Go.Proofs.Ytnkinjilnccmfaa
/- order: Around. -/
namespace Go.Order
/-- the number that Around makes -/
def around (x n : Int) : Int := (if x < 0 then -(x + 1) else x) % n
theorem around_rg (x : Int) {n : Nat} (hn : 0 < n) : ∃ k : Nat, around x n = k ∧ k < n := by
  have h1 := Int.emod_nonneg (if x < 0 then -(x + 1) else x) (b := (n : Int)) (by omega)
  have h2 := Int.emod_lt_of_pos (if x < 0 then -(x + 1) else x) (b := (n : Int)) (by omega)
  unfold around
  exact ⟨((if x < 0 then -(x + 1) else x) % (n : Int)).toNat, by omega, by omega⟩
end Go.Order
namespace Go.Proofs.Ytnkinjilnccmfaa
open Go.RowKit Go.Own Go.BigFrame Go.Big Go.Order
theorem around_any (x n : Int) (hx : -9223372036854775808 ≤ x ∧ x < 9223372036854775808) (hn : 1 ≤ n ∧ n ≤ 1000000) (w : World) : Calls Try.prog 19 #[.int .i64 x, .int .i64 n] w fun e w' => e = .returned (.int .i64 (around x n)) ∧ w' = w := by
  have hz : (n == 0) = false := by simp; omega
  by_cases h : x < 0
  · have e : around x n = -(x + 1).tmod n := by unfold around; rw [if_pos h, ← Int.neg_tmod, Int.tmod_eq_emod_of_nonneg (by omega)]
    have e1 : wrap64 (x + 1) = x + 1 := Go.IntWalk.wrap64_in _ (by omega)
    have e2 : wrap64 (-(x + 1)) = -(x + 1) := Go.IntWalk.wrap64_in _ (by omega)
    have E := Lib.hid e; clear e
    go_enter Try.func19, Try.ntmps19
    go_wp2
    go_ret
    rw [E.out]
    exact ⟨rfl, rfl⟩
  · have e : around x n = x % n := by unfold around; rw [if_neg h]
    have E := Lib.hid e; clear e
    go_enter Try.func19, Try.ntmps19
    go_wp2
    go_ret
    rw [E.out]
    exact ⟨rfl, rfl⟩
end Go.Proofs.Ytnkinjilnccmfaa
/- order: Backwards. -/
namespace Go.Proofs.Ytnkinjilnccmfaa
open Go.RowKit Go.Own Go.BigFrame Go.Big Go.Order
set_option maxRecDepth 100000 in
set_option maxHeartbeats 3200000 in
theorem backwards_any (l : List Spl) (s : Option Addr) (ca : Nat) (w : World) (hl : Lst w (.slice s l.length ca) l) (hn : l.length ≤ 100000) :
    Calls Try.prog 26 #[.slice s l.length ca] w fun e w' => ∃ v, e = .returned v ∧ w'.ownsRow w.heap.size 58 10 v l.length (flat l.reverse) ∧ Below w.heap.size w w' := by
  have HL := Lib.hid hl; clear hl
  go_enter Try.func26, Try.ntmps26
  go_wp2
  go_loopw [3, 4] (fun v c wr => ∃ k : Nat, k ≤ l.length ∧ c = .int .i64 ((k : Int) - 1) ∧ wr.ownsRow w.heap.size 58 10 v (l.length - k) (flat (l.drop k).reverse) ∧ Below w.heap.size w wr) (fun _ c _ => ((vInt c) + 1).toNat)
  case atStart => exact ⟨l.length, Nat.le_refl _, rfl, by rw [Nat.sub_self, List.drop_length]; exact World.ownsRow_nil _ _ _ _, Below.refl _ _⟩
  case round =>
    obtain ⟨k, hk, rfl, hrow, hbr⟩ := hrel
    obtain ⟨so, co, rfl, _⟩ := own_slice hrow
    cases k with
    | zero =>
      have HR := Lib.hid hrow; clear hrow
      go_wp2
      go_ret
      exact ⟨_, rfl, HR.out, hbr⟩
    | succ q =>
      have h1 : q < l.length := by omega
      have e0 : ((q + 1 : Nat) : Int) - 1 = (q : Int) := by omega
      rw [e0]
      have hq0 : (0 ≤ (q : Int)) = True := eq_true (by omega)
      obtain ⟨x, hx⟩ : ∃ x, x = l[q] := ⟨_, rfl⟩
      obtain ⟨g, o, rfl, _, _, _, hC, hg⟩ := (HL.out).at (by omega)
      have hq : ∀ j v, x.cells[j]? = some v → wr.cell? ⟨g, o + q * 10 + j, none⟩ = some v := fun j v hj => by
        rw [hx] at hj
        exact (hbr.cell (p := ⟨g, o + q * 10 + j, none⟩) hg).trans (hC q j v h1 hj)
      have hnew : flat (l.drop (q + 1)).reverse ++ x.cells = flat (l.drop q).reverse := by
        rw [List.drop_eq_getElem_cons h1, List.reverse_cons, flat_app, ← hx]; unfold flat; simp
      have hone : ∀ u ∈ x.cells, u.oneCell' = true := fun u hu => flat_one [x] u (by unfold flat; simpa using hu)
      have hcell : x.cells = [.int .i64 x.w, .int .i64 x.p, .bool x.a.n, x.a.sl, .bool x.b.n, x.b.sl, .bool x.c.n, x.c.sl, .bool x.d.n, x.d.sl] := rfl
      have HNEW := Lib.hid hnew; clear hnew
      clear hx hC
      obtain ⟨m, p, ⟨na, da, sa, ya⟩, ⟨nb, db, sb, yb⟩, ⟨nc, dc, sc, yc⟩, ⟨nd, dd, sd, yd⟩⟩ := x
      have k0 : wr.cell? ⟨g, o + q * 10, none⟩ = some (.int .i64 m) := by have := hq 0 _ rfl; simpa using this
      have k1 : wr.cell? ⟨g, o + q * 10 + 1, none⟩ = some (.int .i64 p) := by have := hq 1 _ rfl; simpa using this
      have k2 : wr.cell? ⟨g, o + q * 10 + 2, none⟩ = some (.bool na) := by have := hq 2 _ rfl; simpa using this
      have k3 : wr.cell? ⟨g, o + q * 10 + 3, none⟩ = some (.slice sa da.length ya) := by have := hq 3 _ rfl; simpa [Num.sl] using this
      have k4 : wr.cell? ⟨g, o + q * 10 + 4, none⟩ = some (.bool nb) := by have := hq 4 _ rfl; simpa using this
      have k5 : wr.cell? ⟨g, o + q * 10 + 5, none⟩ = some (.slice sb db.length yb) := by have := hq 5 _ rfl; simpa [Num.sl] using this
      have k6 : wr.cell? ⟨g, o + q * 10 + 6, none⟩ = some (.bool nc) := by have := hq 6 _ rfl; simpa using this
      have k7 : wr.cell? ⟨g, o + q * 10 + 7, none⟩ = some (.slice sc dc.length yc) := by have := hq 7 _ rfl; simpa [Num.sl] using this
      have k8 : wr.cell? ⟨g, o + q * 10 + 8, none⟩ = some (.bool nd) := by have := hq 8 _ rfl; simpa using this
      have k9 : wr.cell? ⟨g, o + q * 10 + 9, none⟩ = some (.slice sd dd.length yd) := by have := hq 9 _ rfl; simpa [Num.sl] using this
      have HONE := Lib.hid hone; clear hone
      have HR := Lib.hid hrow; clear hrow
      have HBR := Lib.hid hbr; clear hbr
      have HN := Lib.hid hn
      have h1' : (q : Int) < l.length := by omega
      clear hq hcell HL hn h1 hk e0
      obtain ⟨w8, hw8⟩ : ∃ w8 : World, w8 = wr.alloc (.cells #[.int .i64 m, .int .i64 p, .bool na, .slice sa da.length ya, .bool nb, .slice sb db.length yb, .bool nc, .slice sc dc.length yc, .bool nd, .slice sd dd.length yd] 58) := ⟨_, rfl⟩
      have b8 : Below wr.heap.size wr w8 := by rw [hw8]; exact alloc_below _ _
      have kb8 : Blk w8 wr.heap.size [.int .i64 m, .int .i64 p, .bool na, .slice sa da.length ya, .bool nb, .slice sb db.length yb, .bool nc, .slice sc dc.length yc, .bool nd, .slice sd dd.length yd] 58 := by rw [hw8]; exact Blk.new wr #[.int .i64 m, .int .i64 p, .bool na, .slice sa da.length ya, .bool nb, .slice sb db.length yb, .bool nc, .slice sc dc.length yc, .bool nd, .slice sd dd.length yd] 58
      have row8 := own_below HR.out b8
      have bw8 : Below w.heap.size w w8 := HBR.out.trans (b8.mono HBR.out.size)
      have hk8 : ∀ (j : Nat) (u : Value), [.int .i64 m, .int .i64 p, .bool na, .slice sa da.length ya, .bool nb, .slice sb db.length yb, .bool nc, .slice sc dc.length yc, .bool nd, .slice sd dd.length yd][j]? = some u → w8.cell? ((⟨wr.heap.size, 0, none⟩ : Addr).add j) = some u := fun j u hj => by
        rw [Addr.add_lit, Nat.zero_add]; exact kb8.cell hj
      have hz8 := bw8.size
      have HB8 := Lib.hid bw8; clear bw8
      have row8' := row8
      have HROW8 := Lib.hid row8'; clear row8'
      rw [hw8] at row8 hk8 hz8
      have HROW := Lib.hid row8; clear row8
      have HK8 := Lib.hid hk8; clear hk8
      have HZ8 := Lib.hid hz8; clear hz8
      have HW8 := Lib.hid hw8; clear hw8 b8 kb8
      go_wp2_with (refine wpList_append_where rfl _ _ 23 rfl w.heap.size 58 _ 10 144 hTspl2 infoSpl rfl (by decide) _ (l.length - (q + 1)) _ rfl HROW.out ⟨wr.heap.size, 0, none⟩ 1 1 [.int .i64 m, .int .i64 p, .bool na, .slice sa da.length ya, .bool nb, .slice sb db.length yb, .bool nc, .slice sc dc.length yc, .bool nd, .slice sd dd.length yd] rfl rfl HK8.out HONE.out (by have := HN.out; simp only [maxLen]; omega) (by have := HN.out; omega) HZ8.out ?_)
      intro v' w9 h2 h3 _
      rw [← HW8.out] at h3
      have bw9 : Below w.heap.size w w9 := by
        refine HB8.out.grown h3 HB8.out.size fun b hb => ?_
        exact (HROW8.out.lt b hb).1
      have e9 : w9.ownsRow w.heap.size 58 10 v' (l.length - q) (flat (l.drop q).reverse) := by
        rw [← HNEW.out]
        have : l.length - q = l.length - (q + 1) + 1 := by omega
        rw [this]; exact h2
      have E9 := Lib.hid e9
      have BW9 := Lib.hid bw9
      clear h2 h3 e9 bw9
      go_wp2
      go_roundw
      case rel => exact ⟨q, by omega, by have := HN.out; rw [Go.IntWalk.wrap64_in ((q : Int) - 1) (by omega)], E9.out, BW9.out⟩
      case measure => have := HN.out; rw [Go.IntWalk.wrap64_in ((q : Int) - 1) (by omega)]; simp [vInt]
end Go.Proofs.Ytnkinjilnccmfaa
