/- order: the reference's integers: digits, their normal form. -/
import Derived.Test.YtnkinjilnccmfaaRows
import Derived.Test.YtnkinjilnccmfaaOwn
import Derived.Test.YtnkinjilnccmfaaOw
import Derived.Test.YtnkinjilnccmfaaMp
import Derived.Test.YtnkinjilnccmfaaIb
import Derived.Test.YtnkinjilnccmfaaBig
import Derived.Test.YtnkinjilnccmfaaSqC
import Derived.Test.YtnkinjilnccmfaaLaw
namespace Go.Own
open Go.RowKit Go.Big
def vInt : Value → Int | .int _ q => q | _ => 0
theorem sl_at {w : World} {n cap : Nat} {sa : Option Addr} {vs : List Value} (h : Sl w 1 (.slice sa n cap) n vs) (hn : 0 < n) :
    ∃ b off, sa = some ⟨b, off, none⟩ ∧ n ≤ cap ∧ cap ≤ maxLen ∧ Cells w b off vs ∧ b < w.heap.size := by
  obtain ⟨_, ⟨h2, h3⟩ | ⟨b, off, cap', h2, h3, h4, h5, h6⟩⟩ := h
  · omega
  · injection h2 with h2 _ h7
    subst h7
    exact ⟨b, off, h2, h3, h4, h5, h6⟩
/-- A slice that reads where it is not empty. -/
def Sz (w : World) (v : Value) (n : Nat) (vs : List Value) : Prop := 0 < n → Sl w 1 v n vs
theorem Sz.below {w w' : World} {v : Value} {n : Nat} {vs : List Value} (h : Sz w v n vs) (hb : Below w.heap.size w w') : Sz w' v n vs := fun h0 => (h h0).below hb
theorem Sz.of {w : World} {v : Value} {n : Nat} {vs : List Value} (h : Sl w 1 v n vs) : Sz w v n vs := fun _ => h
/-- digits as cells -/
def nts (l : List Nat) : List Value := l.map fun d : Nat => .int .i64 (d : Int)
theorem nts_len (l : List Nat) : (nts l).length = l.length := by simp [nts]
theorem nts_at {l : List Nat} {i : Nat} (h : i < l.length) : (nts l)[i]? = some (.int .i64 (l[i] : Nat)) := by simp [nts, h]
/-- how long what comes in can be -/
abbrev LL : Nat := 17592186044400
theorem sl_take {w : World} {s : Option Addr} {n m cap : Nat} {vs : List Value} (h : Sl w 1 (.slice s n cap) n vs) (hm : m ≤ n) (hm0 : 0 < m) : Sl w 1 (.slice s m cap) m (vs.take m) := by
  obtain ⟨h1, ⟨_, h0⟩ | ⟨b, o, c, e, h2, h3, h4, h5⟩⟩ := h
  · omega
  · injection e with e1 e2 e3
    subst e1 e3
    refine ⟨by simp; omega, .inr ⟨b, o, cap, rfl, by omega, h3, fun i v hi => h4 i v ?_, h5⟩⟩
    rw [List.getElem?_take] at hi
    split at hi
    · exact hi
    · cases hi
end Go.Own
namespace Go.Proofs.Ytnkinjilnccmfaa
open Go.RowKit Go.Own Go.BigFrame Go.Ib Go.Big
theorem infoInt : (Try.prog.info? 3).map (fun i => (i.zero, i.size, i.bytes)) = some (some (.int .i64 0), 1, 8) := by kernel_rfl
theorem infoI : (Try.prog.info? 52).map (·.size) = some 2 := by kernel_rfl
theorem hTint : Try.prog.underlying 50 = some (.slice 3) := by kernel_rfl
set_option maxRecDepth 100000 in
theorem digit_any (l : List Nat) (i : Nat) (s : Option Addr) (cap : Nat) (w : World) (hl : Sz w (.slice s l.length cap) l.length (nts l)) :
    Calls Try.prog 86 #[.slice s l.length cap, .int .i64 i] w fun e w' => e = .returned (.int .i64 (dg l i)) ∧ w' = w := by
  by_cases h : i < l.length
  · have h' : (i : Int) < l.length := by omega
    obtain ⟨g, o, rfl, _, _, hC, _⟩ := sl_at (hl (by omega)) (by omega)
    have cx : w.cell? ⟨g, o + i, none⟩ = some (.int .i64 (l[i] : Nat)) := hC i _ (nts_at h)
    have e : dg l i = l[i] := by unfold dg; simp [h]
    obtain ⟨d, hd⟩ : ∃ d, d = l[i] := ⟨_, rfl⟩
    rw [← hd] at cx e
    rw [e]
    clear hC hd e hl
    go_enter Try.func86, Try.ntmps86
    go_wp2
    go_ret
    exact ⟨rfl, rfl⟩
  · have h' : ((i : Int) < l.length) = False := eq_false (by omega)
    have e : dg l i = 0 := by unfold dg; simp [Nat.le_of_not_lt h]
    rw [e]
    clear e hl
    go_enter Try.func86, Try.ntmps86
    go_wp2
    go_ret
    exact ⟨rfl, rfl⟩
theorem dg_lt {l : List Nat} (h : Dig l) (i : Nat) : dg l i < 1000000000 := by
  unfold dg
  by_cases hi : i < l.length
  · rw [List.getD_eq_getElem?_getD, List.getElem?_eq_getElem hi]; exact h _ (List.getElem_mem _)
  · rw [List.getD_eq_getElem?_getD, List.getElem?_eq_none (by omega)]; decide
set_option maxRecDepth 100000 in
theorem tiny_any (l : List Nat) (s : Option Addr) (cap : Nat) (w : World) (hd : Dig l) (hl : Sz w (.slice s l.length cap) l.length (nts l)) :
    Calls Try.prog 77 #[.slice s l.length cap] w fun e w' => e = .returned (.int .i64 ((dg l 1 * 1000000000 + dg l 0 : Nat) : Int)) ∧ w' = w := by
  have h1 := digit_any l 1 s cap w hl
  have h0 := digit_any l 0 s cap w hl
  have d1 := dg_lt hd 1
  have d0 := dg_lt hd 0
  obtain ⟨x, hx⟩ : ∃ x, x = dg l 1 := ⟨_, rfl⟩
  obtain ⟨y, hy⟩ : ∃ y, y = dg l 0 := ⟨_, rfl⟩
  rw [← hx] at h1 d1 ⊢
  rw [← hy] at h0 d0 ⊢
  have H1 := Lib.hid h1; clear h1 hx
  have H0 := Lib.hid h0; clear h0 hy hl
  go_enter Try.func77, Try.ntmps77
  go_wp2_with (fail)
  refine H1.out.mono ?_
  rintro e w1 ⟨rfl, h⟩
  have h2 := h.symm; clear h; subst h2
  go_wp2_with (fail)
  refine H0.out.mono ?_
  rintro e w1 ⟨rfl, h⟩
  have h2 := h.symm; clear h; subst h2
  go_wp2
  go_ret
  exact ⟨by simp, rfl⟩
set_option maxRecDepth 100000 in
theorem normal_any (neg : Bool) (l : List Nat) (s : Option Addr) (cap : Nat) (w : World) (hl : Sz w (.slice s l.length cap) l.length (nts l)) (hll : l.length ≤ LL) (hcap : l.length ≤ cap) :
    Calls Try.prog 76 #[.bool neg, .slice s l.length cap] w fun e w' => ∃ s' cap', e = .returned (.agg #[.bool (neg && !(norm l).isEmpty), .slice s' (norm l).length cap']) ∧ Sl w' 1 (.slice s' (norm l).length cap') (norm l).length (nts (norm l)) ∧ (norm l).length ≤ cap' ∧ (s' = none ∨ s' = s) ∧ Below w.heap.size w w' := by
  obtain ⟨W1, hW1⟩ : ∃ W1, W1 = w.alloc (.cells #[.bool false, .slice none 0 0] 52) := ⟨_, rfl⟩
  have hB : Blk W1 w.heap.size [.bool false, .slice none 0 0] 52 := by rw [hW1]; exact Blk.new w #[.bool false, .slice none 0 0] 52
  have b1 : Below w.heap.size w W1 := by rw [hW1]; exact alloc_below _ _
  have hl1 := hl.below b1
  have HL0 := Lib.hid hl
  have HL := Lib.hid hl1; clear hl1 hl
  have hll2 : (l.length : Int) ≤ 17592186044400 := by unfold LL at hll; omega
  have HW1 := Lib.hid hW1; clear hW1
  go_enter Try.func76, Try.ntmps76
  go_wp2
  rw [← HW1.out]
  go_loopw [5] (fun v wr => ∃ n : Nat, n ≤ l.length ∧ v = .int .i64 n ∧ (∀ i (h : i < l.length), n ≤ i → l[i] = 0) ∧ wr = W1) (fun v _ => (vInt v).toNat)
  case atStart => exact ⟨l.length, Nat.le_refl _, rfl, fun i h h2 => by omega, rfl⟩
  case round =>
    obtain ⟨n, hn, rfl, hz, rfl⟩ := hrel
    have HZ := Lib.hid hz; clear hz
    by_cases h0 : 0 < n
    · have h0' : (0 : Int) < n := by omega
      obtain ⟨q, hq⟩ : ∃ q, q = n - 1 := ⟨_, rfl⟩
      have eq1 : (n : Int) - 1 = (q : Int) := by omega
      have hql : q < l.length := by omega
      have hql' : (q : Int) < l.length := by omega
      obtain ⟨g, o, rfl, _, _, hC, _⟩ := sl_at (HL.out (by omega)) (by omega)
      obtain ⟨d, hd⟩ : ∃ d, d = l[q] := ⟨_, rfl⟩
      have cx : wr.cell? ⟨g, o + q, none⟩ = some (.int .i64 (d : Nat)) := by rw [hd]; exact hC q _ (nts_at hql)
      have hmx : max (q : Int) 0 = q := by omega
      have HD := Lib.hid hd; clear hd hC
      have HQ := Lib.hid hq; clear hq
      by_cases hd0 : d = 0
      · subst hd0
        go_wp2
        go_roundw
        case rel =>
          refine ⟨q, by omega, rfl, fun i h h2 => ?_, trivial⟩
          by_cases e : i = q
          · subst e; exact HD.out.symm
          · exact HZ.out i h (by have := HQ.out; omega)
        case measure => simp [vInt]; have := HQ.out; omega
      · have hlen : (norm l).length = n := norm_at hn HZ.out (.inr ⟨by omega, by
          have h9 := HD.out
          have h8 := HQ.out
          subst h8
          rw [← h9]; exact hd0⟩)
        have hd1 : ((d : Int) == 0) = false := by simp; omega
        have hd2 : ((d : Int) = 0) = False := eq_false (by omega)
        have hn0 : ((n : Int) == 0) = false := by simp; omega
        have hn1 : ((n : Int) = 0) = False := eq_false (by omega)
        have hne : (norm l).isEmpty = false := by
          cases h : norm l with
          | nil => rw [h] at hlen; simp at hlen; omega
          | cons x r => rfl
        have hnm : norm l = l.take n := by rw [← hlen]; exact norm_take l
        have hsl := sl_take (HL0.out (by omega)) hn h0
        have hncap : n ≤ cap := by omega
        have HLEN := Lib.hid hlen; clear hlen
        have HNE := Lib.hid hne; clear hne
        have HNM := Lib.hid hnm; clear hnm
        have HSL := Lib.hid hsl; clear hsl hd0
        have hz0 : (0 : Int) ≤ n := by omega
        have hnci : (n : Int) ≤ cap := by omega
        go_wp2_with (refine wpList_store_blk (ty := 52) (n := 2) (vs := [.bool neg, .slice (some ⟨g, o, none⟩) n cap]) hB rfl rfl rfl rfl rfl infoI rfl (by simp) (by intro u hu; simp at hu; rcases hu with hu | hu <;> (subst hu; rfl)) ?_)
        intro wz q1 q2
        have hwz : Below w.heap.size w wz := q2.below b1 (Nat.le_refl _)
        have hslz := HSL.out.below hwz
        go_wp2
        refine bodyPost_ret (results_blk rfl q1 rfl rfl (by kernel_rfl) infoI) rfl ?_
        refine ⟨some ⟨g, o, none⟩, cap, ?_, ?_, ?_, .inr rfl, hwz⟩
        · rw [HNE.out, HLEN.out]; simp
        · rw [HLEN.out, HNM.out]
          unfold nts at hslz ⊢
          rw [List.map_take]; exact hslz
        · rw [HLEN.out]; omega
    · obtain rfl : n = 0 := by omega
      have h0' : ((0 : Int) < 0) = False := eq_false (by omega)
      have hlen : (norm l).length = 0 := norm_at hn HZ.out (.inl rfl)
      have hnil : norm l = [] := List.length_eq_zero_iff.1 hlen
      have HNIL := Lib.hid hnil; clear hnil hlen
      go_wp2_with (refine wpList_store_blk (ty := 52) (n := 2) (vs := [.bool false, .slice none 0 0]) hB rfl rfl rfl rfl rfl infoI rfl (by simp) (by intro u hu; simp at hu; rcases hu with hu | hu <;> (subst hu; rfl)) ?_)
      intro wz q1 q2
      have hwz : Below w.heap.size w wz := q2.below b1 (Nat.le_refl _)
      go_wp2
      refine bodyPost_ret (results_blk rfl q1 rfl rfl (by kernel_rfl) infoI) rfl ?_
      refine ⟨none, 0, ?_, ?_, ?_, .inl rfl, hwz⟩
      · rw [HNIL.out]; simp
      · rw [HNIL.out]; exact ⟨rfl, .inl ⟨rfl, rfl⟩⟩
      · rw [HNIL.out]; simp
/-- what an Int's fields read -/
structure Itv (w : World) (g o : Nat) (n : Bool) (s : Option Addr) (len cap : Nat) : Prop where
  c0 : w.cell? ⟨g, o, none⟩ = some (.bool n)
  c1 : w.cell? ⟨g, o + 1, none⟩ = some (.slice s len cap)
def intsI (l : List Int) : List Value := l.map (.int .i64)
def validB (n : Bool) (l : List Int) : Bool := (l.all fun d => decide (0 ≤ d) && decide (d < 1000000000)) && (if l.isEmpty then !n else l.getLastD 0 != 0)
set_option maxRecDepth 100000 in
theorem valid_any (n : Bool) (l : List Int) (s : Option Addr) (cap : Nat) (w : World) (hl : Sz w (.slice s l.length cap) l.length (l.map (.int .i64))) (hll : l.length ≤ LL) :
    Calls Try.prog 58 #[.agg #[.bool n, .slice s l.length cap]] w fun e w' => e = .returned (.bool (validB n l)) ∧ Below w.heap.size w w' := by
  obtain ⟨W1, hW1⟩ : ∃ W1, W1 = w.alloc (.cells #[.bool n, .slice s l.length cap] 52) := ⟨_, rfl⟩
  have hB : Blk W1 w.heap.size [.bool n, .slice s l.length cap] 52 := by rw [hW1]; exact Blk.new w #[.bool n, .slice s l.length cap] 52
  have b1 : Below w.heap.size w W1 := by rw [hW1]; exact alloc_below _ _
  have hl1 := hl.below b1
  have HL := Lib.hid hl1; clear hl1 hl
  have hll2 : (l.length : Int) ≤ 17592186044400 := by unfold LL at hll; omega
  have HW1 := Lib.hid hW1; clear hW1
  have q0 : W1.cell? ⟨w.heap.size, 0, none⟩ = some (.bool n) := hB.cell rfl
  have q1 : W1.cell? ⟨w.heap.size, 1, none⟩ = some (.slice s l.length cap) := hB.cell rfl
  go_enter Try.func58, Try.ntmps58
  go_wp2
  rw [← HW1.out]
  go_loopw [3] (fun v wr => ∃ i : Nat, i ≤ l.length ∧ v = .int .i64 i ∧ (∀ j (h : j < l.length), j < i → 0 ≤ l[j] ∧ l[j] < 1000000000) ∧ wr = W1) (fun v _ => l.length - (vInt v).toNat)
  case atStart => exact ⟨0, Nat.zero_le _, rfl, fun j h h2 => by omega, rfl⟩
  case round =>
    obtain ⟨i, hi, rfl, ha, rfl⟩ := hrel
    have HA := Lib.hid ha; clear ha
    by_cases h1 : i < l.length
    · have h1' : (i : Int) < l.length := by omega
      obtain ⟨g, o, rfl, _, _, hC, _⟩ := sl_at (HL.out (by omega)) (by omega)
      obtain ⟨d, hd⟩ : ∃ d, d = l[i] := ⟨_, rfl⟩
      have cx : wr.cell? ⟨g, o + i, none⟩ = some (.int .i64 d) := by rw [hd]; exact hC i _ (by simp [h1])
      have HD := Lib.hid hd; clear hd hC
      have hbad : ¬ (0 ≤ d ∧ d < 1000000000) → validB n l = false := fun h => by
        unfold validB
        rw [show (l.all fun d => decide (0 ≤ d) && decide (d < 1000000000)) = false from ?_, Bool.false_and]
        rw [List.all_eq_false]
        refine ⟨d, by rw [HD.out]; exact List.getElem_mem h1, ?_⟩
        rw [Bool.not_eq_true, Bool.and_eq_false_iff, decide_eq_false_iff_not, decide_eq_false_iff_not]
        omega
      have HBAD := Lib.hid hbad; clear hbad
      by_cases d0 : d < 0
      · have hb := HBAD.out (by omega)
        have HB2 := Lib.hid hb; clear hb
        go_wp2
        go_ret
        exact ⟨by rw [HB2.out]; rfl, b1⟩
      · have d0' : (d < 0) = False := eq_false d0
        by_cases d1 : 1000000000 ≤ d
        · have hb := HBAD.out (by omega)
          have HB2 := Lib.hid hb; clear hb d0
          go_wp2
          go_ret
          exact ⟨by rw [HB2.out]; rfl, b1⟩
        · have d1' : ((1000000000 : Int) ≤ d) = False := eq_false d1
          have hok : 0 ≤ d ∧ d < 1000000000 := by omega
          have HOK := Lib.hid hok; clear hok d0 d1
          go_wp2
          go_roundw
          case rel =>
            refine ⟨i + 1, by omega, by go_num, fun j h h2 => ?_, trivial⟩
            by_cases e : j = i
            · subst e; rw [← HD.out]; exact HOK.out
            · exact HA.out j h (by omega)
          case measure => simp [vInt]; omega
    · have h1' : ((i : Int) < l.length) = False := eq_false (by omega)
      have hall : (l.all fun d => decide (0 ≤ d) && decide (d < 1000000000)) = true := by
        rw [List.all_eq_true]
        intro d hd
        obtain ⟨j, hj, rfl⟩ := List.getElem_of_mem hd
        have := HA.out j hj (by omega)
        rw [Bool.and_eq_true, decide_eq_true_eq, decide_eq_true_eq]
        exact this
      have HALL := Lib.hid hall; clear hall
      by_cases h0 : l.length = 0
      · have hn : l = [] := List.length_eq_zero_iff.1 h0
        subst hn
        have hv : validB n [] = !n := by simp [validB]
        have HV := Lib.hid hv; clear hv
        go_wp2
        go_ret
        exact ⟨by rw [HV.out]; rfl, b1⟩
      · have h00 : ((l.length : Int) == 0) = false := beq_eq_false_iff_ne.2 (by omega)
        have h01 : ((l.length : Int) = 0) = False := eq_false (by omega)
        obtain ⟨q, hq⟩ : ∃ q, q = l.length - 1 := ⟨_, rfl⟩
        have eq1 : (l.length : Int) - 1 = (q : Int) := by omega
        have hql : q < l.length := by omega
        have hql' : (q : Int) < l.length := by omega
        obtain ⟨g, o, rfl, _, _, hC, _⟩ := sl_at (HL.out (by omega)) (by omega)
        obtain ⟨d, hd⟩ : ∃ d, d = l[q] := ⟨_, rfl⟩
        have cx : wr.cell? ⟨g, o + q, none⟩ = some (.int .i64 d) := by rw [hd]; exact hC q _ (by simp [hql])
        have hv : validB n l = (d != 0) := by
          unfold validB
          rw [HALL.out, Bool.true_and, if_neg (by rw [List.isEmpty_iff]; intro h; rw [h] at hql; simp at hql)]
          rw [hd, List.getLastD_eq_getLast?, List.getLast?_eq_getElem?, ← hq]
          simp [hql]
        have HV := Lib.hid hv; clear hv hd hC hq
        have hnl : ¬ l = [] := by intro h; rw [h] at hql; simp at hql
        go_wp2
        go_ret
        exact ⟨by rw [HV.out]; rfl, b1⟩
end Go.Proofs.Ytnkinjilnccmfaa
/- order: the reference's compared, minus. -/
namespace Go.Own
open Go.RowKit Go.Big
theorem Sz.sl {w : World} {v : Value} {n : Nat} {vs : List Value} (h : Sz w v n vs) (h0 : 0 < n) : Sl w 1 v n vs := h h0
theorem nts_app (a b : List Nat) : nts (a ++ b) = nts a ++ nts b := by simp [nts]
end Go.Own
namespace Go.Proofs.Ytnkinjilnccmfaa
open Go.RowKit Go.Own Go.BigFrame Go.Big
attribute [local irreducible] SqC.SqW
set_option maxRecDepth 100000 in
set_option maxHeartbeats 1600000 in
theorem compared_any (a b : List Nat) (s t : Option Addr) (ca cb : Nat) (w : World) (ha : Big.Can a) (hb : Big.Can b) (hl : Sz w (.slice s a.length ca) a.length (nts a)) (hm : Sz w (.slice t b.length cb) b.length (nts b)) (hll : a.length ≤ LL) :
    Calls Try.prog 101 #[.slice s a.length ca, .slice t b.length cb] w fun e w' => ∃ c : Int, e = .returned (.int .i64 c) ∧ (c < 0 ↔ val a < val b) ∧ (c ≤ 0 ↔ val a ≤ val b) ∧ Below w.heap.size w w' := by
  have HL := Lib.hid hl; clear hl
  have HM := Lib.hid hm; clear hm
  have hll2 : (a.length : Int) ≤ 17592186044400 := by unfold LL at hll; omega
  rcases Nat.lt_trichotomy a.length b.length with h | h | h
  · have h1 : (a.length : Int) < b.length := by omega
    have hv := len_lt ha.1 hb h
    go_enter Try.func101, Try.ntmps101
    go_wp2
    go_ret
    exact ⟨-1, rfl, by omega, by omega, Below.refl _ _⟩
  · have h1 : ((a.length : Int) < b.length) = False := eq_false (by omega)
    have h2 : ((b.length : Int) < a.length) = False := eq_false (by omega)
    have HE := Lib.hid h; clear h
    go_enter Try.func101, Try.ntmps101
    go_wp2
    go_loopw [5] (fun v wr => ∃ n : Nat, n ≤ a.length ∧ v = .int .i64 ((n : Int) - 1) ∧ a.drop n = b.drop n ∧ Below w.heap.size w wr) (fun v _ => (vInt v + 1).toNat)
    case atStart => exact ⟨a.length, Nat.le_refl _, rfl, by rw [List.drop_eq_nil_of_le (Nat.le_refl _), List.drop_eq_nil_of_le (by have := HE.out; omega)], Below.refl _ _⟩
    case round =>
      obtain ⟨n, hn, rfl, hd, hbr⟩ := hrel
      have HD := Lib.hid hd; clear hd
      by_cases h0 : 0 < n
      · obtain ⟨q, hq⟩ : ∃ q, q = n - 1 := ⟨_, rfl⟩
        have eq1 : (n : Int) - 1 = (q : Int) := by omega
        rw [eq1]
        have hqa : q < a.length := by omega
        have hqb : q < b.length := by have := HE.out; omega
        have hqa' : (q : Int) < a.length := by omega
        have hqb' : (q : Int) < b.length := by omega
        obtain ⟨g, o, rfl, _, _, hC, hg⟩ := sl_at (HL.out (by omega)) (by omega)
        obtain ⟨g2, o2, rfl, _, _, hC2, hg2⟩ := sl_at (HM.out (by omega)) (by omega)
        obtain ⟨x, hx⟩ : ∃ x, x = a[q] := ⟨_, rfl⟩
        obtain ⟨y, hy⟩ : ∃ y, y = b[q] := ⟨_, rfl⟩
        have cx : wr.cell? ⟨g, o + q, none⟩ = some (.int .i64 (x : Nat)) := by rw [hx]; exact (hC.below hbr hg) q _ (nts_at hqa)
        have cy : wr.cell? ⟨g2, o2 + q, none⟩ = some (.int .i64 (y : Nat)) := by rw [hy]; exact (hC2.below hbr hg2) q _ (nts_at hqb)
        have hdq : a.drop (q + 1) = b.drop (q + 1) := by rw [show q + 1 = n by omega]; exact HD.out
        have hlt : x < y → val a < val b := fun h => top_lt ha.1 HE.out hqa hdq (by rw [← hx, ← hy]; exact h)
        have hgt : y < x → val b < val a := fun h => top_lt hb.1 HE.out.symm hqb hdq.symm (by rw [← hx, ← hy]; exact h)
        have heq : x = y → a.drop q = b.drop q := fun h => by rw [List.drop_eq_getElem_cons hqa, List.drop_eq_getElem_cons hqb, hdq, ← hx, ← hy, h]
        have HLT := Lib.hid hlt; clear hlt
        have HGT := Lib.hid hgt; clear hgt
        have HEQ := Lib.hid heq; clear heq
        have HQ := Lib.hid hq
        have hq0 : (0 : Int) ≤ q := by omega
        clear hx hy hC hC2 hdq eq1 hq
        rcases Nat.lt_trichotomy x y with h | h | h
        · have e1 : (x : Int) < y := by omega
          have hv := HLT.out h
          have HV := Lib.hid hv; clear hv
          go_wp2
          go_quiet (fail)
          go_wp2
          go_ret
          exact ⟨-1, rfl, by have := HV.out; omega, by have := HV.out; omega, below_drewN hbr _⟩
        · have e1 : ((x : Int) < y) = False := eq_false (by omega)
          have e2 : ((y : Int) < x) = False := eq_false (by omega)
          have hv := HEQ.out h
          have HV := Lib.hid hv; clear hv h
          go_wp2
          go_quiet (fail)
          go_wp2
          go_quiet (fail)
          go_wp2
          go_roundw
          case rel => exact ⟨q, by omega, rfl, HV.out, below_drewN hbr _⟩
          case measure => have := HQ.out; simp [vInt] <;> omega
        · have e1 : ((x : Int) < y) = False := eq_false (by omega)
          have e2 : (y : Int) < x := by omega
          have hv := HGT.out h
          have HV := Lib.hid hv; clear hv h
          go_wp2
          go_quiet (fail)
          go_wp2
          go_quiet (fail)
          go_wp2
          go_ret
          exact ⟨1, rfl, by have := HV.out; omega, by have := HV.out; omega, below_drewN (below_drewN hbr _) _⟩
      · obtain rfl : n = 0 := by omega
        have hab : a = b := by simpa using HD.out
        have HAB := Lib.hid hab; clear hab
        have hneg : ((0 : Int) ≤ ((0 : Nat) : Int) - 1) = False := eq_false (by omega)
        go_wp2
        go_ret
        exact ⟨0, rfl, by rw [HAB.out]; omega, by rw [HAB.out]; omega, hbr⟩
  · have h1 : ((a.length : Int) < b.length) = False := eq_false (by omega)
    have h2 : (b.length : Int) < a.length := by omega
    have hv := len_lt hb.1 ha h
    go_enter Try.func101, Try.ntmps101
    go_wp2
    go_ret
    exact ⟨1, rfl, by omega, by omega, Below.refl _ _⟩
set_option maxRecDepth 100000 in
set_option maxHeartbeats 1600000 in
theorem minus_any (a b : List Nat) (s t : Option Addr) (ca cb : Nat) (w : World) (ha : Dig a) (hb : Dig b) (hl : Sz w (.slice s a.length ca) a.length (nts a)) (hm : Sz w (.slice t b.length cb) b.length (nts b)) (hll : a.length ≤ LL) :
    Calls Try.prog 89 #[.slice s a.length ca, .slice t b.length cb] w fun e w' => ∃ so co, e = .returned (.slice so (sub a b).length co) ∧ Sl w' 1 (.slice so (sub a b).length co) (sub a b).length (nts (sub a b)) ∧ (∀ g, (Value.slice so (sub a b).length co).ownBlock = some g → w.heap.size ≤ g) ∧ Below w.heap.size w w' := by
  have HL := Lib.hid hl; clear hl
  have HM := Lib.hid hm; clear hm
  have HA := Lib.hid ha; clear ha
  have HBD := Lib.hid hb; clear hb
  have hll2 : (a.length : Int) ≤ 17592186044400 := by unfold LL at hll; omega
  have hll3 : a.length ≤ 17592186044400 := by unfold LL at hll; omega
  go_enter Try.func89, Try.ntmps89
  go_wp2
  go_loopw [5, 6, 7] (fun v5 v6 v7 wr => ∃ i : Nat, i ≤ a.length ∧ v7 = .int .i64 i ∧ v6 = .int .i64 ((subN a b i).2 : Nat) ∧ wr.ownsRow w.heap.size 3 1 v5 (subN a b i).1.length (nts (subN a b i).1) ∧ Below w.heap.size w wr) (fun _ _ v7 _ => a.length - (vInt v7).toNat)
  case atStart => exact ⟨0, by omega, rfl, rfl, World.ownsRow_nil _ _ _ _, Below.refl _ _⟩
  case round =>
    obtain ⟨i, hi, rfl, rfl, ho, hbr⟩ := hrel
    obtain ⟨sv, cv, rfl, hown⟩ := own_slice ho
    have HOWN := Lib.hid hown; clear hown
    by_cases h1 : i < a.length
    · have h1' : (i : Int) < a.length := by omega
      obtain ⟨g, o, rfl, _, _, hC, hg⟩ := sl_at (HL.out (by omega)) (by omega)
      have ka := dg_lt HA.out i
      have kb := dg_lt HBD.out i
      have hda : dg a i = a[i] := by unfold dg; simp [h1]
      obtain ⟨n1, _, n3, _, _⟩ := subN_spec HA.out HBD.out i hi
      have hstep : subN a b (i + 1) = if dg a i < dg b i + (subN a b i).2 then ((subN a b i).1 ++ [dg a i + B - (dg b i + (subN a b i).2)], 1) else ((subN a b i).1 ++ [dg a i - (dg b i + (subN a b i).2)], 0) := rfl
      have hcx : ∀ U, Below w.heap.size w U → U.cell? ⟨g, o + i, none⟩ = some (.int .i64 (dg a i : Nat)) := fun U hU => by rw [hda]; exact (hC.below hU hg) i _ (nts_at h1)
      have hdg : ∀ U, Below w.heap.size w U → Calls Try.prog 86 #[.slice t b.length cb, .int .i64 i] U fun e w' => e = .returned (.int .i64 (dg b i)) ∧ w' = U := fun U hU => digit_any b i t cb U (HM.out.below hU)
      obtain ⟨x, hx⟩ : ∃ x, x = dg a i := ⟨_, rfl⟩
      obtain ⟨y, hy⟩ : ∃ y, y = dg b i := ⟨_, rfl⟩
      obtain ⟨c, hc⟩ : ∃ c, c = (subN a b i).2 := ⟨_, rfl⟩
      obtain ⟨T, hT⟩ : ∃ T, T = (subN a b i).1 := ⟨_, rfl⟩
      rw [← hx] at ka hstep hcx
      rw [← hy] at kb hstep hdg
      rw [← hc] at n3 hstep ⊢
      rw [← hT] at n1 hstep ho ⊢
      have HST := Lib.hid hstep; clear hstep
      have HCX := Lib.hid hcx; clear hcx
      have HDG := Lib.hid hdg; clear hdg
      have HO := Lib.hid ho; clear ho
      have HBR := Lib.hid hbr
      have HN1 := Lib.hid n1
      have hTl : T.length ≤ 17592186044400 := by omega
      clear hx hy hc hT hda hC n1
      have eX : Below w.heap.size w wr.drew := hbr.drew
      clear hbr
      go_wp2
      haveI : Nonempty (SqC.Come fun U : World => Below w.heap.size w U) := ⟨⟨_, eX⟩⟩
      refine SqC.wp_region_sqc 11 [6] (fun U : World => Below w.heap.size w U) (by kernel_rfl) (by kernel_rfl) (by kernel_rfl) eX ?_
      obtain ⟨wd, hwd⟩ : ∃ wd : World, wd = wr.drew := ⟨_, rfl⟩
      rw [← hwd] at eX ⊢
      iterate 3 (refine SqC.quiet rfl rfl ?_; go_big_quiet_step (fail); refine wpQuiet_nil ?_)
      refine SqC.value (.int .i64 (x : Nat)) rfl rfl (by intro U hU; have cx := HCX.out U hU; go_simp) ?_
      simp only [Act.put, List.setIfInBounds_toArray, List.set_cons_zero, List.set_cons_succ]
      iterate 2 (refine SqC.quiet rfl rfl ?_; go_big_quiet_step (fail); refine wpQuiet_nil ?_)
      refine SqC.effect rfl rfl ?_
      refine yields_call rfl (by kernel_rfl) rfl rfl ((HDG.out wd eX).mono ?_)
      rintro e w5 ⟨rfl, h5⟩
      have h6 := h5.symm
      clear h5
      subst h6
      refine ⟨_, rfl, fun _ => eX, ?_⟩
      simp only [Act.put, List.setIfInBounds_toArray, List.set_cons_zero, List.set_cons_succ]
      iterate 4 (refine SqC.quiet rfl rfl ?_; go_big_quiet_step (fail); refine wpQuiet_nil ?_)
      refine SqC.nil ?_
      have hod := own_below HO.out (show Below wr.heap.size wr wd by rw [hwd]; exact (Below.refl _ _).drew)
      have HOD := Lib.hid hod; clear hod HO
      have HEX := Lib.hid eX; clear eX hwd
      have hsz := HEX.out.size
      by_cases hlt : x < y + c
      · have e1 : ((x : Int) - y - c) < 0 := by omega
        obtain ⟨z, hz⟩ : ∃ z, z = x + 1000000000 - (y + c) := ⟨_, rfl⟩
        have e2 : ((x : Int) - y - c) + 1000000000 = (z : Int) := by omega
        have e3 : subN a b (i + 1) = (T ++ [z], 1) := by rw [HST.out, if_pos hlt, hz]
        have HE3 := Lib.hid e3; clear e3
        have HZ := Lib.hid hz; clear hz
        have HOA := HOD.out.alloc (.cells #[.int .i64 (z : Int)] 3)
        go_wp2_with (refine wpList_append_sl rfl _ _ 50 rfl w.heap.size 3 (.int .i64 0) 1 8 hTint infoInt rfl (by decide) _ T.length _ rfl HOA _ 1 [.int .i64 (z : Int)] rfl (sl_new _ _ _ 1 rfl (by decide)) (by intro u hu; simp at hu; rw [hu]; rfl) (by unfold maxLen; omega) (by omega) (by simp; omega) ?_)
        intro v' w8 g1 g2
        have hb8 : Below w.heap.size w w8 := grown_below (HEX.out.alloc hsz (.cells #[.int .i64 (z : Int)] 3)) HOA g2 (by simp; omega)
        have HB8 := Lib.hid hb8; clear hb8
        have HG1 := Lib.hid g1; clear g1 g2 HOA
        go_wp2
        go_roundw
        case rel => exact ⟨i + 1, by omega, by go_num, by rw [HE3.out]; rfl, by rw [HE3.out]; simp only [List.length_append, List.length_singleton, nts_app]; exact HG1.out, HB8.out⟩
        case measure => simp [vInt]; omega
      · have e1 : (((x : Int) - y - c) < 0) = False := eq_false (by omega)
        obtain ⟨z, hz⟩ : ∃ z, z = x - (y + c) := ⟨_, rfl⟩
        have e2 : ((x : Int) - y - c) = (z : Int) := by omega
        have e3 : subN a b (i + 1) = (T ++ [z], 0) := by rw [HST.out, if_neg hlt, hz]
        have e4 : ((z : Int) < 0) = False := eq_false (by omega)
        have HE3 := Lib.hid e3; clear e3
        have HZ := Lib.hid hz; clear hz
        have HOA := HOD.out.alloc (.cells #[.int .i64 (z : Int)] 3)
        go_wp2_with (refine wpList_append_sl rfl _ _ 50 rfl w.heap.size 3 (.int .i64 0) 1 8 hTint infoInt rfl (by decide) _ T.length _ rfl HOA _ 1 [.int .i64 (z : Int)] rfl (sl_new _ _ _ 1 rfl (by decide)) (by intro u hu; simp at hu; rw [hu]; rfl) (by unfold maxLen; omega) (by omega) (by simp; omega) ?_)
        intro v' w8 g1 g2
        have hb8 : Below w.heap.size w w8 := grown_below (HEX.out.alloc hsz (.cells #[.int .i64 (z : Int)] 3)) HOA g2 (by simp; omega)
        have HB8 := Lib.hid hb8; clear hb8
        have HG1 := Lib.hid g1; clear g1 g2 HOA
        go_wp2
        go_roundw
        case rel => exact ⟨i + 1, by omega, by go_num, by rw [HE3.out]; rfl, by rw [HE3.out]; simp only [List.length_append, List.length_singleton, nts_app]; exact HG1.out, HB8.out⟩
        case measure => simp [vInt]; omega
    · have h1' : ((i : Int) < a.length) = False := eq_false (by omega)
      obtain rfl : i = a.length := by omega
      have hsl := Sl.of_owns ho
      have HSL := Lib.hid hsl; clear hsl ho
      go_wp2
      go_ret
      exact ⟨sv, cv, rfl, HSL.out, HOWN.out, hbr⟩
end Go.Proofs.Ytnkinjilnccmfaa
/- order: the reference's Of, times. -/
namespace Go.Big
def dgs (n : Nat) : List Nat := if h : n = 0 then [] else n % B :: dgs (n / B)
termination_by n
decreasing_by exact Nat.div_lt_self (by omega) (by decide)
theorem dgs_zero : dgs 0 = [] := by unfold dgs; rw [dif_pos rfl]
theorem dgs_pos {n : Nat} (h : n ≠ 0) : dgs n = n % B :: dgs (n / B) := by conv => lhs; unfold dgs; rw [dif_neg h]
theorem dgs_all (n : Nat) : val (dgs n) = n ∧ Dig (dgs n) ∧ norm (dgs n) = dgs n := by
  induction n using Nat.strongRecOn with
  | _ n ih =>
    by_cases h : n = 0
    · subst h; rw [dgs_zero]; exact ⟨rfl, fun d hd => (by cases hd), rfl⟩
    · obtain ⟨h1, h2, h3⟩ := ih (n / B) (Nat.div_lt_self (by omega) (by decide))
      rw [dgs_pos h]
      refine ⟨?_, ?_, ?_⟩
      · rw [val, h1]; have := Nat.div_add_mod n B; omega
      · intro d hd
        rcases List.mem_cons.1 hd with rfl | hd
        · exact Nat.mod_lt _ (by decide)
        · exact h2 d hd
      · unfold norm
        rw [h3, if_neg]
        rintro ⟨h4, h5⟩
        have h6 : val (dgs (n / B)) = 0 := by rw [h4]; rfl
        rw [h1] at h6
        have := Nat.div_add_mod n B
        rw [h5, h6] at this
        simp at this
        omega
theorem dgs_can (n : Nat) : Big.Can (dgs n) := ⟨(dgs_all n).2.1, (dgs_all n).2.2⟩
theorem dgs_len {n : Nat} (h : n < 1000000000000000000000000000) : (dgs n).length ≤ 3 := by
  by_cases h1 : n = 0
  · subst h1; rw [dgs_zero]; simp
  · rw [dgs_pos h1]
    by_cases h2 : n / B = 0
    · rw [h2, dgs_zero]; simp
    · rw [dgs_pos h2]
      by_cases h3 : n / B / B = 0
      · rw [h3, dgs_zero]; simp
      · rw [dgs_pos h3]
        have h4 : n / B / B / B = 0 := by
          rw [Nat.div_div_eq_div_mul, Nat.div_div_eq_div_mul]
          exact Nat.div_eq_of_lt h
        rw [h4, dgs_zero]; simp
theorem dgs_small {k : Nat} (h0 : k ≠ 0) (h : k < B) : dgs k = [k] := by
  rw [dgs_pos h0, Nat.mod_eq_of_lt h, Nat.div_eq_of_lt h, dgs_zero]
end Go.Big
namespace Go.Own
open Go.RowKit
theorem sl_oth {w w' : World} {size n g : Nat} {v : Value} {vs : List Value} (h : Sl w size v n vs) (hc : Oth g w w') (hg : ∀ b, v.ownBlock = some b → b ≠ g) : Sl w' size v n vs :=
  h.chg (Chg.of_oth hc (List.mem_singleton.2 rfl)) fun b hb h => hg b hb (List.mem_singleton.1 h)
end Go.Own
namespace Go.Proofs.Ytnkinjilnccmfaa
open Go.RowKit Go.Own Go.BigFrame Go.Big
attribute [local irreducible] SqC.SqW
set_option maxRecDepth 100000 in
set_option maxHeartbeats 1600000 in
theorem of_any (n : Nat) (hn : n < 9223372036854775808) (w : World) :
    Calls Try.prog 78 #[.int .i64 n] w fun e w' => ∃ s' cap', e = .returned (.agg #[.bool false, .slice s' (dgs n).length cap']) ∧ Sl w' 1 (.slice s' (dgs n).length cap') (dgs n).length (nts (dgs n)) ∧ Below w.heap.size w w' := by
  obtain ⟨W1, hW1⟩ : ∃ W1, W1 = w.alloc (.cells #[.bool false, .slice none 0 0] 52) := ⟨_, rfl⟩
  have hB : Blk W1 w.heap.size [.bool false, .slice none 0 0] 52 := by rw [hW1]; exact Blk.new w #[.bool false, .slice none 0 0] 52
  have b1 : Below w.heap.size w W1 := by rw [hW1]; exact alloc_below _ _
  have HW1 := Lib.hid hW1; clear hW1
  have HB := Lib.hid hB; clear hB
  have HB1 := Lib.hid b1; clear b1
  have hl3 := dgs_len (n := n) (by omega)
  have HL3 := Lib.hid hl3; clear hl3
  have hneg : ((n : Int) < 0) = False := eq_false (by omega)
  go_enter Try.func78, Try.ntmps78
  go_wp2
  rw [← HW1.out]
  clear hneg
  go_loopw [0, 3] (fun v0 v3 wr => ∃ (p : List Nat) (r : Nat), r ≤ n ∧ v0 = .int .i64 r ∧ p ++ dgs r = dgs n ∧ wr.ownsRow W1.heap.size 3 1 v3 p.length (nts p) ∧ Below W1.heap.size W1 wr) (fun v0 _ _ => (vInt v0).toNat)
  case atStart => exact ⟨[], n, Nat.le_refl _, rfl, rfl, World.ownsRow_nil _ _ _ _, Below.refl _ _⟩
  case round =>
    obtain ⟨p, r, hr, rfl, hp, ho, hbr⟩ := hrel
    obtain ⟨sv, cv, rfl, hown⟩ := own_slice ho
    by_cases h0 : r = 0
    · subst h0
      rw [dgs_zero, List.append_nil] at hp
      have h00 : (((0 : Nat) : Int) != 0) = false := by simp
      have HP := Lib.hid hp; clear hp
      have hsl := Sl.of_owns ho
      rw [HP.out] at hsl ⊢
      have hnm := normal_any false (dgs n) sv cv wr (Sz.of hsl) (by have := HL3.out; unfold LL; omega) (by obtain ⟨_, _, e, h, _⟩ := sl_slice hsl; injection e with _ _ e3; omega)
      rw [(dgs_all n).2.2] at hnm
      have HNM := Lib.hid hnm; clear hnm hsl ho
      obtain ⟨m, hm⟩ : ∃ m, m = dgs n := ⟨_, rfl⟩
      rw [← hm] at HNM ⊢
      have HMM := Lib.hid hm; clear hm
      go_wp2_with (fail)
      refine HNM.out.mono ?_
      rintro e w5 ⟨s', cap', rfl, hs5, _, hss, b5⟩
      have hwW : w.heap.size < W1.heap.size := HB.out.lt
      have b5' : Below W1.heap.size W1 w5 := hbr.trans (b5.mono hbr.size)
      have hB5 := HB.out.below b5' HB.out.lt
      have HS5 := Lib.hid hs5; clear hs5
      go_wp2_with (refine wpList_store_blk (ty := 52) (n := 2) (vs := [.bool false, .slice s' m.length cap']) hB5 rfl rfl rfl rfl rfl infoI rfl (by simp) (by intro u hu; simp at hu; rcases hu with hu | hu <;> (subst hu; rfl)) ?_)
      intro wz q1 q2
      have hwz : Below w.heap.size w wz := q2.below (HB1.out.trans (b5'.mono HB1.out.size)) (Nat.le_refl _)
      have hz := sl_oth HS5.out q2 (by rcases hss with rfl | rfl
                                       · intro b hb; cases hb
                                       · intro b hb e
                                         have := hown b (by cases s' with
                                           | none => cases hb
                                           | some q => exact hb)
                                         omega)
      go_wp2
      refine bodyPost_ret (results_blk rfl q1 rfl rfl (by kernel_rfl) infoI) rfl ?_
      have hm := HMM.out
      subst hm
      exact ⟨s', cap', rfl, hz, hwz⟩
    · have h00 : ((r : Int) != 0) = true := by simp; omega
      have hd := dgs_pos h0
      have hrl : p.length + (dgs r).length = (dgs n).length := by rw [← hp, List.length_append]
      have hpl : p.length ≤ 3 := by have := HL3.out; omega
      obtain ⟨x, hx⟩ : ∃ x, x = r % B := ⟨_, rfl⟩
      obtain ⟨y, hy⟩ : ∃ y, y = r / B := ⟨_, rfl⟩
      have e1 : (r : Int) % 1000000000 = (x : Int) := by rw [hx]; show (r : Int) % 1000000000 = ((r % 1000000000 : Nat) : Int); omega
      have e2 : (r : Int) / 1000000000 = (y : Int) := by rw [hy]; show (r : Int) / 1000000000 = ((r / 1000000000 : Nat) : Int); omega
      have hyr : y < r := by rw [hy]; exact Nat.div_lt_self (by omega) (by decide)
      rw [← hx, ← hy] at hd
      have hnext : (p ++ [x]) ++ dgs y = dgs n := by rw [List.append_assoc, List.singleton_append, ← hd]; exact hp
      have HNX := Lib.hid hnext; clear hnext
      have HX := Lib.hid hx; clear hx
      have HY := Lib.hid hy; clear hy hd hrl hp
      have hx0 : ((x : Int) < 0) = False := eq_false (by omega)
      have hr0 : (0 : Int) ≤ r := by omega
      have HOA := ho.alloc (.cells #[.int .i64 (x : Int)] 3)
      have hsz := hbr.size
      go_wp2_with (refine wpList_append_sl rfl _ _ 50 rfl W1.heap.size 3 (.int .i64 0) 1 8 hTint infoInt rfl (by decide) _ p.length _ rfl HOA _ 1 [.int .i64 (x : Int)] rfl (sl_new _ _ _ 1 rfl (by decide)) (by intro u hu; simp at hu; rw [hu]; rfl) (by unfold maxLen; omega) (by omega) (by simp; omega) ?_)
      intro v' w8 g1 g2
      have hb8 : Below W1.heap.size W1 w8 := grown_below (hbr.alloc hsz (.cells #[.int .i64 (x : Int)] 3)) HOA g2 (by simp; omega)
      have HB8 := Lib.hid hb8; clear hb8
      have HG1 := Lib.hid g1; clear g1 g2 HOA ho
      go_wp2
      go_roundw
      case rel => exact ⟨p ++ [x], y, by omega, rfl, HNX.out, by simp only [List.length_append, List.length_singleton, nts_app]; exact HG1.out, HB8.out⟩
      case measure => simp [vInt]; omega
end Go.Proofs.Ytnkinjilnccmfaa
/- order: the reference's Mul where the second number has one digit, times. -/
namespace Go.Big
/-- what stands in the product after i rounds -/
def mrow (a : List Nat) (k i : Nat) : List Nat := (mulN a k i).1 ++ [(mulN a k i).2] ++ List.replicate (a.length - i) 0
theorem mrow_zero (a : List Nat) (k : Nat) : mrow a k 0 = List.replicate (a.length + 1) 0 := by
  unfold mrow mulN; simp [List.replicate_succ]
theorem mrow_end (a : List Nat) (k : Nat) : mrow a k a.length = mul a k := by unfold mrow mul; simp
theorem mrow_len {a : List Nat} (ha : Dig a) {k : Nat} (hk : k < B) {i : Nat} (hi : i ≤ a.length) : (mrow a k i).length = a.length + 1 := by
  have := (mulN_spec ha hk i hi).1
  unfold mrow; simp [this]; omega
theorem mrow_at {a : List Nat} (ha : Dig a) {k : Nat} (hk : k < B) {i : Nat} (hi : i < a.length) : (mrow a k i)[i]? = some (mulN a k i).2 := by
  have := (mulN_spec ha hk i (by omega)).1
  unfold mrow
  rw [List.append_assoc, List.getElem?_append_right (by omega), this]; simp
theorem mrow_step {a : List Nat} (ha : Dig a) {k : Nat} (hk : k < B) {i : Nat} (hi : i < a.length) :
    ((mrow a k i).set i (((mulN a k i).2 + dg a i * k) % B)).set (i + 1) (((mulN a k i).2 + dg a i * k) / B) = mrow a k (i + 1) := by
  have h1 := (mulN_spec ha hk i (by omega)).1
  have h2 : (mulN a k (i + 1)) = ((mulN a k i).1 ++ [((mulN a k i).2 + dg a i * k) % B], ((mulN a k i).2 + dg a i * k) / B) := rfl
  unfold mrow
  rw [h2]
  dsimp only
  generalize mulN a k i = p at *
  rw [show a.length - i = (a.length - (i + 1)) + 1 by omega, List.replicate_succ, List.append_assoc, List.set_append_right _ _ (by omega), h1, Nat.sub_self]
  simp only [List.singleton_append, List.set_cons_zero]
  rw [List.set_append_right _ _ (by omega), h1, show i + 1 - i = 1 by omega]
  simp
end Go.Big
namespace Go.Own
open Go.RowKit Go.Big
theorem nts_set (l : List Nat) (i x : Nat) : (nts l).set i (.int .i64 (x : Int)) = nts (l.set i x) := by unfold nts; rw [List.map_set]
theorem nts_rep (n : Nat) : nts (List.replicate n 0) = List.replicate n (.int .i64 0) := by unfold nts; rw [List.map_replicate]; rfl
theorem nts_get {l : List Nat} {i x : Nat} (h : l[i]? = some x) : (nts l)[i]? = some (.int .i64 (x : Int)) := by unfold nts; rw [List.getElem?_map, h]; rfl
theorem sl_blk {w : World} {g : Nat} {vs : List Value} {t : TypeId} {n : Nat} (h : Blk w g vs t) (hn : vs.length = n) (hm : n ≤ maxLen) : Sl w 1 (.slice (some ⟨g, 0, none⟩) n n) n vs :=
  ⟨by omega, .inr ⟨g, 0, n, rfl, Nat.le_refl _, hm, h.cells0, h.lt⟩⟩
end Go.Own
namespace Go.Proofs.Ytnkinjilnccmfaa
open Go.RowKit Go.Own Go.BigFrame Go.Big
theorem mk_ints (n : Nat) (hn : n * 8 ≤ 140737488355328) (u : World) : (Instr.makeSlice 50 (.int .i64 n) (.int .i64 n)).run Try.prog u = .ok (.slice (some ⟨u.heap.size, 0, none⟩) n n) (u.alloc (.cells (Array.replicate n (.int .i64 0)) 3)) :=
  run_make_one (.int .i64 0) 8 (by kernel_rfl) (by kernel_rfl) rfl n (by omega) (by unfold maxLen; omega) u
set_option maxRecDepth 100000 in
set_option maxHeartbeats 1600000 in
theorem mul1_any (na nb : Bool) (a : List Nat) (k : Nat) (ha : Dig a) (hk : k < B) (s t : Option Addr) (ca cb : Nat) (w : World) (hl : Sz w (.slice s a.length ca) a.length (nts a)) (hm : Sz w (.slice t 1 cb) 1 (nts [k])) (hll : a.length + 1 ≤ LL) :
    Calls Try.prog 110 #[.agg #[.bool na, .slice s a.length ca], .agg #[.bool nb, .slice t 1 cb]] w fun e w' => ∃ n s' cap', e = .returned (.agg #[.bool n, .slice s' (norm (mul a k)).length cap']) ∧ Sl w' 1 (.slice s' (norm (mul a k)).length cap') (norm (mul a k)).length (nts (norm (mul a k))) ∧ Below w.heap.size w w' := by
  obtain ⟨W1, hW1⟩ : ∃ W1, W1 = w.alloc (.cells #[.bool na, .slice s a.length ca] 52) := ⟨_, rfl⟩
  obtain ⟨W2, hW2⟩ : ∃ W2, W2 = W1.alloc (.cells #[.bool nb, .slice t 1 cb] 52) := ⟨_, rfl⟩
  obtain ⟨W3, hW3⟩ : ∃ W3, W3 = W2.alloc (.cells #[.bool false, .slice none 0 0] 52) := ⟨_, rfl⟩
  obtain ⟨W4, hW4⟩ : ∃ W4, W4 = W3.alloc (.cells (Array.replicate (a.length + 1) (.int .i64 0)) 3) := ⟨_, rfl⟩
  have z1 : W1.heap.size = w.heap.size + 1 := by rw [hW1]; exact alloc_size _ _
  have z2 : W2.heap.size = w.heap.size + 2 := by rw [hW2, alloc_size, z1]
  have z3 : W3.heap.size = w.heap.size + 3 := by rw [hW3, alloc_size, z2]
  have b1 : Below w.heap.size w W1 := by rw [hW1]; exact alloc_below _ _
  have b2 : Below W1.heap.size W1 W2 := by rw [hW2]; exact alloc_below _ _
  have b3 : Below W2.heap.size W2 W3 := by rw [hW3]; exact alloc_below _ _
  have b4 : Below W3.heap.size W3 W4 := by rw [hW4]; exact alloc_below _ _
  have B1 : Blk W1 w.heap.size [.bool na, .slice s a.length ca] 52 := by rw [hW1]; exact Blk.new w #[.bool na, .slice s a.length ca] 52
  have B2 : Blk W2 W1.heap.size [.bool nb, .slice t 1 cb] 52 := by rw [hW2]; exact Blk.new W1 #[.bool nb, .slice t 1 cb] 52
  have B3 : Blk W3 W2.heap.size [.bool false, .slice none 0 0] 52 := by rw [hW3]; exact Blk.new W2 #[.bool false, .slice none 0 0] 52
  have B4 : Blk W4 W3.heap.size (nts (mrow a k 0)) 3 := by rw [hW4, mrow_zero, nts_rep]; exact blk_make W3 _ _ _
  have q0 : W3.cell? ⟨w.heap.size, 1, none⟩ = some (.slice s a.length ca) := ((B1.below b2 B1.lt).below b3 (by omega)).cell rfl
  have q1 : W3.cell? ⟨W1.heap.size, 1, none⟩ = some (.slice t 1 cb) := (B2.below b3 B2.lt).cell rfl
  have HW1 := Lib.hid hW1; clear hW1
  have HW2 := Lib.hid hW2; clear hW2
  have HW3 := Lib.hid hW3; clear hW3
  have HW4 := Lib.hid hW4; clear hW4
  have Z1 := Lib.hid z1; clear z1
  have Z2 := Lib.hid z2; clear z2
  have Z3 := Lib.hid z3; clear z3
  have HL := Lib.hid hl; clear hl
  have HM := Lib.hid hm; clear hm
  have HLL := Lib.hid hll
  have hll2 : (a.length : Int) ≤ 17592186044399 := by unfold LL at hll; omega
  clear hll
  have hmk := fun u => mk_ints (a.length + 1) (by have := HLL.out; unfold LL at this; omega) u
  rw [show ((a.length + 1 : Nat) : Int) = (a.length : Int) + 1 by omega] at hmk
  obtain ⟨G, hG⟩ : ∃ G, G = w.heap.size + 1 + 1 + 1 := ⟨_, rfl⟩
  have hG3 : W3.heap.size = G := by have := Z3.out; omega
  have b04 : Below w.heap.size w W4 := (b1.trans (b2.mono b1.size)).trans ((b3.trans (b4.mono b3.size)).mono (Nat.le_trans b1.size b2.size))
  have q0' : W4.cell? ⟨w.heap.size, 1, none⟩ = some (.slice s a.length ca) := by rw [← q0]; exact b4.cell (p := ⟨w.heap.size, 1, none⟩) (by have := Z3.out; show w.heap.size < _; omega)
  have q1' : W4.cell? ⟨w.heap.size + 1, 1, none⟩ = some (.slice t 1 cb) := by
    have := b4.cell (p := ⟨W1.heap.size, 1, none⟩) (by have := Z3.out; have := Z1.out; show W1.heap.size < _; omega)
    rw [q1, Z1.out] at this; exact this
  have q2' : Blk W4 (w.heap.size + 1 + 1) [.bool false, .slice none 0 0] 52 := by
    have := B3.below b4 B3.lt
    rw [Z2.out] at this; exact this
  have q3' : W4.cell? ⟨w.heap.size, 0, none⟩ = some (.bool na) := (((B1.below b2 B1.lt).below b3 (by have := Z2.out; omega)).below b4 (by have := Z3.out; omega)).cell rfl
  have q4' : W4.cell? ⟨w.heap.size + 1, 0, none⟩ = some (.bool nb) := by
    have := ((B2.below b3 B2.lt).below b4 (by have := Z1.out; have := Z3.out; omega)).cell (i := 0) rfl
    rw [Z1.out] at this; exact this
  have hz4 : W4.heap.size = G + 1 := by rw [HW4.out, alloc_size, hG3]
  rw [hG3] at B4
  have Q0 := Lib.hid q0'; have Q1 := Lib.hid q1'; have Q2 := Lib.hid q2'; have Q3 := Lib.hid q3'; have Q4 := Lib.hid q4'
  clear q0' q1' q2' q3' q4' q0 q1
  have BB4 := Lib.hid B4; clear B4
  have B04 := Lib.hid b04; clear b04 b1 b2 b3 b4 B1 B2 B3
  have HG := Lib.hid hG
  have HZ4 := Lib.hid hz4; clear hz4 hG3
  go_enter Try.func110, Try.ntmps110
  go_wp2
  rw [← HW1.out, ← HW2.out, ← HW3.out, ← HW4.out, ← HG.out]
  clear hmk hG
  go_loopw [6] (fun v wr => ∃ i : Nat, i ≤ a.length ∧ v = .int .i64 i ∧ Blk wr G (nts (mrow a k i)) 3 ∧ Below G W4 wr) (fun v _ => a.length - (vInt v).toNat)
  case atStart => exact ⟨0, Nat.zero_le _, rfl, BB4.out, Below.refl _ _⟩
  case round =>
    obtain ⟨i, hi, rfl, hB, hbr⟩ := hrel
    have hg1 : w.heap.size < G := by have := HG.out; omega
    have hg2 : w.heap.size + 1 < G := by have := HG.out; omega
    have hg3 : w.heap.size + 1 + 1 < G := by have := HG.out; omega
    have hcc : ∀ U, Below G W4 U → U.cell? ⟨w.heap.size, 1, none⟩ = some (.slice s a.length ca) ∧ U.cell? ⟨w.heap.size + 1, 1, none⟩ = some (.slice t 1 cb) ∧ U.cell? ⟨w.heap.size, 0, none⟩ = some (.bool na) ∧ U.cell? ⟨w.heap.size + 1, 0, none⟩ = some (.bool nb) := fun U hU =>
      ⟨by rw [← Q0.out]; exact hU.cell (p := ⟨w.heap.size, 1, none⟩) hg1, by rw [← Q1.out]; exact hU.cell (p := ⟨w.heap.size + 1, 1, none⟩) hg2, by rw [← Q3.out]; exact hU.cell (p := ⟨w.heap.size, 0, none⟩) hg1, by rw [← Q4.out]; exact hU.cell (p := ⟨w.heap.size + 1, 0, none⟩) hg2⟩
    have hbw : ∀ U, Below G W4 U → Below w.heap.size w U := fun U hU => B04.out.trans (hU.mono (Nat.le_of_lt hg1))
    have HBW := Lib.hid hbw; clear hbw
    have HCC := Lib.hid hcc; clear hcc
    obtain ⟨c1, c2, c3, c4⟩ := HCC.out wr hbr
    by_cases h1 : i < a.length
    · have h1' : (i : Int) < a.length := by omega
      obtain ⟨g, o, rfl, _, _, hC, hg⟩ := sl_at (HL.out (by omega)) (by omega)
      obtain ⟨g2, o2, rfl, _, _, hC2, hgt⟩ := sl_at (HM.out (by omega)) (by omega)
      obtain ⟨x, hx⟩ : ∃ x, x = dg a i := ⟨_, rfl⟩
      have hda : dg a i = a[i] := by unfold dg; simp [h1]
      have cx : wr.cell? ⟨g, o + i, none⟩ = some (.int .i64 (x : Nat)) := by rw [hx, hda]; exact (hC.below (HBW.out _ hbr) hg) i _ (nts_at h1)
      have ck : wr.cell? ⟨g2, o2 + 0, none⟩ = some (.int .i64 (k : Nat)) := (hC2.below (HBW.out _ hbr) hgt) 0 _ rfl
      rw [Nat.add_zero] at ck
      obtain ⟨p, hp⟩ : ∃ p, p = (mulN a k i).2 := ⟨_, rfl⟩
      have cp : wr.cell? ⟨G, i, none⟩ = some (.int .i64 (p : Nat)) := by rw [hp]; exact hB.cell (nts_get (mrow_at ha hk h1))
      have fp : wr.frozen? ⟨G, i, none⟩ = false := hB.frozen i
      have hxB : x < B := by rw [hx, hda]; exact ha _ (List.getElem_mem _)
      have hpB : p < B := by rw [hp]; exact (mulN_spec ha hk i (by omega)).2.2.1
      have hst := mrow_step ha hk h1
      rw [← hx, ← hp] at hst
      have HST := Lib.hid hst; clear hst
      have HC := Lib.hid hC; clear hC
      have HC2 := Lib.hid hC2; clear hC2
      obtain ⟨v, hv⟩ : ∃ v, v = p + x * k := ⟨_, rfl⟩
      have hvB : v < B * B := by
        have : x * k ≤ (B - 1) * (B - 1) := Nat.mul_le_mul (by omega) (by omega)
        have e : (B - 1) * (B - 1) = 999999998000000001 := by decide
        have e2 : B * B = 1000000000000000000 := by decide
        have hB : B = 1000000000 := rfl
        rw [e] at this
        rw [e2]
        omega
      rw [← hv] at HST
      have hvB' : (v : Int) < 1000000000000000000 := by have e2 : B * B = 1000000000000000000 := by decide
                                                        omega
      have hv' : (p : Int) + (x : Int) * (k : Int) = (v : Int) := by rw [hv]; simp
      have hxk : (x : Int) * (k : Int) = ((x * k : Nat) : Int) := by simp
      obtain ⟨m, hm⟩ : ∃ m, m = x * k := ⟨_, rfl⟩
      rw [← hm] at hxk hv
      have hpv : p + m = v := hv.symm
      obtain ⟨q, hq⟩ : ∃ q, q = v / B := ⟨_, rfl⟩
      obtain ⟨r, hr⟩ : ∃ r, r = v % B := ⟨_, rfl⟩
      rw [← hq, ← hr] at HST
      have e1 : (v : Int) % 1000000000 = (r : Int) := by rw [hr]; show (v : Int) % 1000000000 = ((v % 1000000000 : Nat) : Int); omega
      have e2 : (v : Int) / 1000000000 = (q : Int) := by rw [hq]; show (v : Int) / 1000000000 = ((v / 1000000000 : Nat) : Int); omega
      have BB := Lib.hid hB; clear hB
      have HBR := Lib.hid hbr; clear hbr
      clear hx hp hm hv hq hr hv' hda
      go_wp2
      obtain ⟨wo, rfl⟩ : ∃ wo : World, wo = wr := ⟨_, rfl⟩
      go_loopw [7, 8] (fun v7 v8 wi => (v7 = .int .i64 0 ∧ v8 = .int .i64 0 ∧ wi = wo) ∨ (v7 = .int .i64 (q : Nat) ∧ v8 = .int .i64 1 ∧ Blk wi G (nts ((mrow a k i).set i r)) 3 ∧ Below G W4 wi)) (fun _ v8 _ => 1 - (vInt v8).toNat)
      case atStart => exact .inl ⟨rfl, rfl, rfl⟩
      case round =>
        rcases hrel with ⟨rfl, rfl, rfl⟩ | ⟨rfl, rfl, hB2, hbr2⟩
        · go_wp2
          go_quiet (fail)
          go_wp2
          refine ⟨.inr ⟨?_, rfl, ?_, ?_⟩, by simp [vInt]⟩
          · rw [show (p : Int) + (m : Int) = (v : Int) by omega, e2]
          · rw [show (p : Int) + (m : Int) = (v : Int) by omega, e1, ← nts_set]
            exact (BB.out.drewN _).set i _
          · exact below_set (below_drewN HBR.out _) (by have := HZ4.out; omega) (Nat.le_refl _) _ _
        · obtain ⟨d1, d2, d3, d4⟩ := HCC.out wr hbr2
          have fp2 : wr.frozen? ⟨G, i + 1, none⟩ = false := hB2.frozen (i + 1)
          have cp2 : ∃ z, wr.cell? ⟨G, i + 1, none⟩ = some z := ⟨_, hB2.cell (nts_get (List.getElem?_eq_getElem (by rw [List.length_set, mrow_len ha hk (by omega)]; omega)))⟩
          obtain ⟨z, cp2⟩ := cp2
          have B2' := Lib.hid hB2; clear hB2
          have HBR2 := Lib.hid hbr2; clear hbr2 c1 c2 c3 c4 cx ck cp fp
          go_wp2
          go_roundw
          case rel =>
            refine ⟨i + 1, by omega, by go_num, ?_, ?_⟩
            · rw [← HST.out, ← nts_set]
              exact B2'.out.set (i + 1) _
            · exact below_set HBR2.out (by have := HZ4.out; omega) (Nat.le_refl _) _ _
          case measure => simp [vInt]; omega
    · have h1' : ((i : Int) < a.length) = False := eq_false (by omega)
      obtain rfl : i = a.length := by omega
      rw [mrow_end] at hB
      have hml := mul_spec ha hk
      have hsl : Sl wr 1 (.slice (some ⟨G, 0, none⟩) (a.length + 1) (a.length + 1)) (a.length + 1) (nts (mul a k)) := sl_blk hB (by rw [nts_len]; exact hml.1) (by have := HLL.out; unfold LL at this; unfold maxLen; omega)
      have hq2 := Q2.out.below hbr hg3
      have Q2' := Lib.hid hq2; clear hq2
      obtain ⟨L, hL⟩ : ∃ L, L = mul a k := ⟨_, rfl⟩
      rw [← hL] at hsl hml
      have hL1 := hml.1
      rw [← hL1] at hsl
      have hbw2 := HBW.out wr hbr
      have HBW2 := Lib.hid hbw2; clear hbw2
      have hnm := fun ng => (normal_any ng L (some ⟨G, 0, none⟩) L.length wr (Sz.of hsl) (by have := HLL.out; unfold LL at *; omega) (Nat.le_refl _)).mono (R' := fun e w' => ∃ nn s' cap', e = .returned (.agg #[.bool nn, .slice s' (norm L).length cap']) ∧ Sl w' 1 (.slice s' (norm L).length cap') (norm L).length (nts (norm L)) ∧ (s' = none ∨ s' = some ⟨G, 0, none⟩) ∧ Below wr.heap.size wr w') (by
        rintro e w' ⟨s', cap', h1, h2, _, h3, h4⟩
        exact ⟨_, s', cap', h1, h2, h3, h4⟩)
      have HNM := Lib.hid hnm; clear hnm hsl hB
      have HLE := Lib.hid hL; clear hL
      have HL1 := Lib.hid hL1
      have hL1' : (a.length : Int) + 1 = (L.length : Int) := by omega
      have HGG := Lib.hid hg3
      have hbrr := Lib.hid hbr
      clear hml hbr hg1 hg2 hg3 HBW
      go_wp2_with (fail)
      rw [← HL1.out]
      refine (HNM.out _).mono ?_
      rintro e w5 ⟨nn, s', cap', rfl, hs5, hss, b5⟩
      have hgs : G < wr.heap.size := Nat.lt_of_lt_of_le (by have := HZ4.out; omega) hbrr.out.size
      have hB5 := Q2'.out.below b5 (by have := HGG.out; omega)
      have HS5 := Lib.hid hs5; clear hs5
      have HB5 := Lib.hid b5; clear b5 HCC
      dsimp only
      rename_i hKK
      refine hKK _ _ ?_
      refine wpList_store_blk (ty := 52) (n := 2) (vs := [.bool nn, .slice s' (norm L).length cap']) hB5 rfl rfl rfl rfl rfl infoI rfl (by simp) (by intro u hu; simp at hu; rcases hu with hu | hu <;> (subst hu; rfl)) ?_
      intro wz z1 z2
      have hwz : Below w.heap.size w wz := z2.below (HBW2.out.trans (HB5.out.mono HBW2.out.size)) (by have := HGG.out; omega)
      have hz := sl_oth HS5.out z2 (by
        rcases hss with rfl | rfl
        · intro b hb; cases hb
        · intro b hb e
          have : G = b := by simpa [Value.ownBlock] using hb
          have := HGG.out; omega)
      go_wp2
      refine bodyPost_ret (results_blk rfl z1 rfl rfl (by kernel_rfl) infoI) rfl ?_
      have hL := HLE.out
      subst hL
      exact ⟨_, s', cap', rfl, hz, hwz⟩
set_option maxRecDepth 100000 in
set_option maxHeartbeats 1600000 in
theorem mul0_any (na nb : Bool) (a : List Nat)  (s t : Option Addr) (ca cb : Nat) (w : World) (hl : Sz w (.slice s a.length ca) a.length (nts a)) (hll : a.length + 1 ≤ LL) :
    Calls Try.prog 110 #[.agg #[.bool na, .slice s a.length ca], .agg #[.bool nb, .slice t 0 cb]] w fun e w' => ∃ n s' cap', e = .returned (.agg #[.bool n, .slice s' (norm (List.replicate a.length 0)).length cap']) ∧ Sl w' 1 (.slice s' (norm (List.replicate a.length 0)).length cap') (norm (List.replicate a.length 0)).length (nts (norm (List.replicate a.length 0))) ∧ Below w.heap.size w w' := by
  obtain ⟨W1, hW1⟩ : ∃ W1, W1 = w.alloc (.cells #[.bool na, .slice s a.length ca] 52) := ⟨_, rfl⟩
  obtain ⟨W2, hW2⟩ : ∃ W2, W2 = W1.alloc (.cells #[.bool nb, .slice t 0 cb] 52) := ⟨_, rfl⟩
  obtain ⟨W3, hW3⟩ : ∃ W3, W3 = W2.alloc (.cells #[.bool false, .slice none 0 0] 52) := ⟨_, rfl⟩
  obtain ⟨W4, hW4⟩ : ∃ W4, W4 = W3.alloc (.cells (Array.replicate (a.length) (.int .i64 0)) 3) := ⟨_, rfl⟩
  have z1 : W1.heap.size = w.heap.size + 1 := by rw [hW1]; exact alloc_size _ _
  have z2 : W2.heap.size = w.heap.size + 2 := by rw [hW2, alloc_size, z1]
  have z3 : W3.heap.size = w.heap.size + 3 := by rw [hW3, alloc_size, z2]
  have b1 : Below w.heap.size w W1 := by rw [hW1]; exact alloc_below _ _
  have b2 : Below W1.heap.size W1 W2 := by rw [hW2]; exact alloc_below _ _
  have b3 : Below W2.heap.size W2 W3 := by rw [hW3]; exact alloc_below _ _
  have b4 : Below W3.heap.size W3 W4 := by rw [hW4]; exact alloc_below _ _
  have B1 : Blk W1 w.heap.size [.bool na, .slice s a.length ca] 52 := by rw [hW1]; exact Blk.new w #[.bool na, .slice s a.length ca] 52
  have B2 : Blk W2 W1.heap.size [.bool nb, .slice t 0 cb] 52 := by rw [hW2]; exact Blk.new W1 #[.bool nb, .slice t 0 cb] 52
  have B3 : Blk W3 W2.heap.size [.bool false, .slice none 0 0] 52 := by rw [hW3]; exact Blk.new W2 #[.bool false, .slice none 0 0] 52
  have B4 : Blk W4 W3.heap.size (nts (List.replicate a.length 0)) 3 := by rw [hW4, nts_rep]; exact blk_make W3 _ _ _
  have q0 : W3.cell? ⟨w.heap.size, 1, none⟩ = some (.slice s a.length ca) := ((B1.below b2 B1.lt).below b3 (by omega)).cell rfl
  have q1 : W3.cell? ⟨W1.heap.size, 1, none⟩ = some (.slice t 0 cb) := (B2.below b3 B2.lt).cell rfl
  have HW1 := Lib.hid hW1; clear hW1
  have HW2 := Lib.hid hW2; clear hW2
  have HW3 := Lib.hid hW3; clear hW3
  have HW4 := Lib.hid hW4; clear hW4
  have Z1 := Lib.hid z1; clear z1
  have Z2 := Lib.hid z2; clear z2
  have Z3 := Lib.hid z3; clear z3
  have HL := Lib.hid hl; clear hl
  have HLL := Lib.hid hll
  have hll2 : (a.length : Int) ≤ 17592186044399 := by unfold LL at hll; omega
  clear hll
  have hmk := fun u => mk_ints a.length (by have := HLL.out; unfold LL at this; omega) u
  obtain ⟨G, hG⟩ : ∃ G, G = w.heap.size + 1 + 1 + 1 := ⟨_, rfl⟩
  have hG3 : W3.heap.size = G := by have := Z3.out; omega
  have b04 : Below w.heap.size w W4 := (b1.trans (b2.mono b1.size)).trans ((b3.trans (b4.mono b3.size)).mono (Nat.le_trans b1.size b2.size))
  have q0' : W4.cell? ⟨w.heap.size, 1, none⟩ = some (.slice s a.length ca) := by rw [← q0]; exact b4.cell (p := ⟨w.heap.size, 1, none⟩) (by have := Z3.out; show w.heap.size < _; omega)
  have q1' : W4.cell? ⟨w.heap.size + 1, 1, none⟩ = some (.slice t 0 cb) := by
    have := b4.cell (p := ⟨W1.heap.size, 1, none⟩) (by have := Z3.out; have := Z1.out; show W1.heap.size < _; omega)
    rw [q1, Z1.out] at this; exact this
  have q2' : Blk W4 (w.heap.size + 1 + 1) [.bool false, .slice none 0 0] 52 := by
    have := B3.below b4 B3.lt
    rw [Z2.out] at this; exact this
  have q3' : W4.cell? ⟨w.heap.size, 0, none⟩ = some (.bool na) := (((B1.below b2 B1.lt).below b3 (by have := Z2.out; omega)).below b4 (by have := Z3.out; omega)).cell rfl
  have q4' : W4.cell? ⟨w.heap.size + 1, 0, none⟩ = some (.bool nb) := by
    have := ((B2.below b3 B2.lt).below b4 (by have := Z1.out; have := Z3.out; omega)).cell (i := 0) rfl
    rw [Z1.out] at this; exact this
  have hz4 : W4.heap.size = G + 1 := by rw [HW4.out, alloc_size, hG3]
  rw [hG3] at B4
  have Q0 := Lib.hid q0'; have Q1 := Lib.hid q1'; have Q2 := Lib.hid q2'; have Q3 := Lib.hid q3'; have Q4 := Lib.hid q4'
  clear q0' q1' q2' q3' q4' q0 q1
  have BB4 := Lib.hid B4; clear B4
  have B04 := Lib.hid b04; clear b04 b1 b2 b3 b4 B1 B2 B3
  have HG := Lib.hid hG
  have HZ4 := Lib.hid hz4; clear hz4 hG3
  go_enter Try.func110, Try.ntmps110
  go_wp2
  rw [← HW1.out, ← HW2.out, ← HW3.out, ← HW4.out, ← HG.out]
  clear hmk hG
  go_loopw [6] (fun v wr => ∃ i : Nat, i ≤ a.length ∧ v = .int .i64 i ∧ Blk wr G (nts (List.replicate a.length 0)) 3 ∧ Below G W4 wr) (fun v _ => a.length - (vInt v).toNat)
  case atStart => exact ⟨0, Nat.zero_le _, rfl, BB4.out, Below.refl _ _⟩
  case round =>
    obtain ⟨i, hi, rfl, hB, hbr⟩ := hrel
    have hg1 : w.heap.size < G := by have := HG.out; omega
    have hg2 : w.heap.size + 1 < G := by have := HG.out; omega
    have hg3 : w.heap.size + 1 + 1 < G := by have := HG.out; omega
    have hcc : ∀ U, Below G W4 U → U.cell? ⟨w.heap.size, 1, none⟩ = some (.slice s a.length ca) ∧ U.cell? ⟨w.heap.size + 1, 1, none⟩ = some (.slice t 0 cb) ∧ U.cell? ⟨w.heap.size, 0, none⟩ = some (.bool na) ∧ U.cell? ⟨w.heap.size + 1, 0, none⟩ = some (.bool nb) := fun U hU =>
      ⟨by rw [← Q0.out]; exact hU.cell (p := ⟨w.heap.size, 1, none⟩) hg1, by rw [← Q1.out]; exact hU.cell (p := ⟨w.heap.size + 1, 1, none⟩) hg2, by rw [← Q3.out]; exact hU.cell (p := ⟨w.heap.size, 0, none⟩) hg1, by rw [← Q4.out]; exact hU.cell (p := ⟨w.heap.size + 1, 0, none⟩) hg2⟩
    have hbw : ∀ U, Below G W4 U → Below w.heap.size w U := fun U hU => B04.out.trans (hU.mono (Nat.le_of_lt hg1))
    have HBW := Lib.hid hbw; clear hbw
    have HCC := Lib.hid hcc; clear hcc
    obtain ⟨c1, c2, c3, c4⟩ := HCC.out wr hbr
    by_cases h1 : i < a.length
    · have h1' : (i : Int) < a.length := by omega
      have fp : wr.frozen? ⟨G, i, none⟩ = false := hB.frozen i
      have cp : wr.cell? ⟨G, i, none⟩ = some (.int .i64 0) := hB.cell (by rw [nts_rep]; simp [h1])
      have BB := Lib.hid hB; clear hB
      have HBR := Lib.hid hbr; clear hbr
      go_wp2
      obtain ⟨wo, rfl⟩ : ∃ wo : World, wo = wr := ⟨_, rfl⟩
      go_loopw [7, 8] (fun v7 v8 wi => v7 = .int .i64 0 ∧ v8 = .int .i64 0 ∧ wi = wo) (fun _ v8 _ => 1 - (vInt v8).toNat)
      case atStart => exact ⟨rfl, rfl, rfl⟩
      case round =>
        obtain ⟨rfl, rfl, rfl⟩ := hrel
        go_wp2
        go_roundw
        case rel =>
          refine ⟨i + 1, by omega, by go_num, ?_, ?_⟩
          · have := BB.out.set i (.int .i64 0)
            rw [nts_rep] at this ⊢
            rwa [List.set_replicate_self] at this
          · exact below_set HBR.out (by have := HZ4.out; omega) (Nat.le_refl _) _ _
        case measure => simp [vInt]; omega
    · have h1' : ((i : Int) < a.length) = False := eq_false (by omega)
      obtain rfl : i = a.length := by omega
      have hsl : Sl wr 1 (.slice (some ⟨G, 0, none⟩) a.length a.length) a.length (nts (List.replicate a.length 0)) := sl_blk hB (by rw [nts_len]; simp) (by have := HLL.out; unfold LL at this; unfold maxLen; omega)
      have hq2 := Q2.out.below hbr hg3
      have Q2' := Lib.hid hq2; clear hq2
      obtain ⟨L, hL⟩ : ∃ L, L = List.replicate a.length 0 := ⟨_, rfl⟩
      rw [← hL] at hsl
      have hL1 : L.length = a.length := by rw [hL]; simp
      rw [← hL1] at hsl
      have hbw2 := HBW.out wr hbr
      have HBW2 := Lib.hid hbw2; clear hbw2
      have hnm := fun ng => (normal_any ng L (some ⟨G, 0, none⟩) L.length wr (Sz.of hsl) (by have := HLL.out; unfold LL at *; omega) (Nat.le_refl _)).mono (R' := fun e w' => ∃ nn s' cap', e = .returned (.agg #[.bool nn, .slice s' (norm L).length cap']) ∧ Sl w' 1 (.slice s' (norm L).length cap') (norm L).length (nts (norm L)) ∧ (s' = none ∨ s' = some ⟨G, 0, none⟩) ∧ Below wr.heap.size wr w') (by
        rintro e w' ⟨s', cap', h1, h2, _, h3, h4⟩
        exact ⟨_, s', cap', h1, h2, h3, h4⟩)
      have HNM := Lib.hid hnm; clear hnm hsl hB
      have HLE := Lib.hid hL; clear hL
      have HL1 := Lib.hid hL1
      have hL1' : (a.length : Int) = (L.length : Int) := by omega
      have HGG := Lib.hid hg3
      have hbrr := Lib.hid hbr
      clear hbr hg1 hg2 hg3 HBW
      go_wp2_with (fail)
      rw [← HL1.out]
      refine (HNM.out _).mono ?_
      rintro e w5 ⟨nn, s', cap', rfl, hs5, hss, b5⟩
      have hgs : G < wr.heap.size := Nat.lt_of_lt_of_le (by have := HZ4.out; omega) hbrr.out.size
      have hB5 := Q2'.out.below b5 (by have := HGG.out; omega)
      have HS5 := Lib.hid hs5; clear hs5
      have HB5 := Lib.hid b5; clear b5 HCC
      dsimp only
      rename_i hKK
      refine hKK _ _ ?_
      refine wpList_store_blk (ty := 52) (n := 2) (vs := [.bool nn, .slice s' (norm L).length cap']) hB5 rfl rfl rfl rfl rfl infoI rfl (by simp) (by intro u hu; simp at hu; rcases hu with hu | hu <;> (subst hu; rfl)) ?_
      intro wz z1 z2
      have hwz : Below w.heap.size w wz := z2.below (HBW2.out.trans (HB5.out.mono HBW2.out.size)) (by have := HGG.out; omega)
      have hz := sl_oth HS5.out z2 (by
        rcases hss with rfl | rfl
        · intro b hb; cases hb
        · intro b hb e
          have : G = b := by simpa [Value.ownBlock] using hb
          have := HGG.out; omega)
      go_wp2
      refine bodyPost_ret (results_blk rfl z1 rfl rfl (by kernel_rfl) infoI) rfl ?_
      have hL := HLE.out
      subst hL
      exact ⟨_, s', cap', rfl, hz, hwz⟩
end Go.Proofs.Ytnkinjilnccmfaa
/- order: the reference's times. -/
namespace Go.Big
theorem norm_zeros : ∀ n, norm (List.replicate n 0) = []
  | 0 => rfl
  | n + 1 => by rw [List.replicate_succ]; unfold norm; rw [norm_zeros n, if_pos ⟨rfl, rfl⟩]
theorem mul_can {a : List Nat} (ha : Dig a) {k : Nat} (hk : k < B) : Can (norm (mul a k)) ∧ val (norm (mul a k)) = val a * k ∧ (norm (mul a k)).length ≤ a.length + 1 := by
  have := mul_spec ha hk
  exact ⟨norm_can this.2.1, by rw [norm_val, this.2.2], by rw [← this.1]; exact norm_len_le _⟩
end Go.Big
namespace Go.Own
open Go.RowKit
theorem aggI_cells {w : World} {g : Nat} {n : Bool} {s : Value} {t : TypeId} (h : Blk w g [.bool n, s] t) : w.cell? ⟨g, 0, none⟩ = some (.bool n) ∧ w.cell? ⟨g, 1, none⟩ = some s := ⟨h.cell rfl, h.cell rfl⟩
end Go.Own
namespace Go.Proofs.Ytnkinjilnccmfaa
open Go.RowKit Go.Own Go.BigFrame Go.Big
theorem mul_any (na nb : Bool) (a : List Nat) (k : Nat) (ha : Dig a) (hk : k < B) (s t : Option Addr) (ca cb : Nat) (w : World) (hl : Sz w (.slice s a.length ca) a.length (nts a)) (hm : Sz w (.slice t (dgs k).length cb) (dgs k).length (nts (dgs k))) (hll : a.length + 1 ≤ LL) :
    Calls Try.prog 110 #[.agg #[.bool na, .slice s a.length ca], .agg #[.bool nb, .slice t (dgs k).length cb]] w fun e w' => ∃ l n s' cap', Big.Can l ∧ val l = val a * k ∧ l.length ≤ a.length + 1 ∧ e = .returned (.agg #[.bool n, .slice s' l.length cap']) ∧ Sl w' 1 (.slice s' l.length cap') l.length (nts l) ∧ Below w.heap.size w w' := by
  by_cases h0 : k = 0
  · subst h0
    rw [dgs_zero] at hm ⊢
    refine (mul0_any na nb a s t ca cb w hl hll).mono ?_
    rintro e w' ⟨n, s', cap', h1, h2, h3⟩
    rw [norm_zeros] at h1 h2
    exact ⟨[], n, s', cap', ⟨fun d hd => (by cases hd), rfl⟩, by simp [val], by simp, h1, h2, h3⟩
  · rw [dgs_small h0 hk] at hm ⊢
    refine (mul1_any na nb a k ha hk s t ca cb w hl hm hll).mono ?_
    rintro e w' ⟨n, s', cap', h1, h2, h3⟩
    obtain ⟨m1, m2, m3⟩ := mul_can ha hk
    exact ⟨_, n, s', cap', m1, m2, m3, h1, h2, h3⟩
set_option maxRecDepth 100000 in
set_option maxHeartbeats 1600000 in
theorem times_any (a : List Nat) (k : Nat) (ha : Dig a) (hk : k < B) (s : Option Addr) (ca : Nat) (w : World) (hl : Sz w (.slice s a.length ca) a.length (nts a)) (hll : a.length + 1 ≤ LL) (hca : a.length ≤ ca) :
    Calls Try.prog 102 #[.slice s a.length ca, .int .i64 k] w fun e w' => ∃ l s' cap', Big.Can l ∧ val l = val a * k ∧ l.length ≤ a.length + 1 ∧ e = .returned (.slice s' l.length cap') ∧ Sl w' 1 (.slice s' l.length cap') l.length (nts l) ∧ Below w.heap.size w w' := by
  have h1 := normal_any false a s ca w hl (by omega) hca
  have H1 := Lib.hid h1; clear h1
  have HLL := Lib.hid hll; clear hll
  have HK := Lib.hid hk; clear hk
  have HA := Lib.hid ha; clear ha
  go_enter Try.func102, Try.ntmps102
  go_wp2_with (fail)
  refine H1.out.mono ?_
  rintro e w1 ⟨s1, c1, rfl, hs1, _, _, b1⟩
  have hx : ∃ x, x = norm a := ⟨_, rfl⟩
  obtain ⟨x, hx⟩ := hx
  rw [← hx] at hs1
  have h2 := of_any k (by have := HK.out; have hB : B = 1000000000 := rfl; omega) w1
  have H2 := Lib.hid h2; clear h2
  have HS1 := Lib.hid hs1; clear hs1
  have HB1 := Lib.hid b1; clear b1
  rw [← hx]
  have HX := Lib.hid hx; clear hx
  have ebf : (false && !x.isEmpty) = false := rfl
  rw [ebf]
  go_wp2_with (fail)
  refine H2.out.mono ?_
  rintro e w2 ⟨s2, c2, rfl, hs2, b2⟩
  have hm := mul_any false false x k (by rw [HX.out]; exact norm_dig HA.out) HK.out s1 s2 c1 c2 w2 (Sz.of (HS1.out.below b2)) (Sz.of hs2) (by have := norm_len_le a; rw [← HX.out] at this; have := HLL.out; omega)
  have HM := Lib.hid hm; clear hm hs2
  have hb2 := HB1.out.trans (b2.mono HB1.out.size)
  have HB2 := Lib.hid hb2; clear hb2 b2
  go_wp2_with (fail)
  refine HM.out.mono ?_
  rintro e w3 ⟨l, n3, s3, c3, hc, hv, hlen, rfl, hs3, b3⟩
  have hb3 := HB2.out.trans (b3.mono HB2.out.size)
  have hvv : val l = val a * k := by rw [hv, HX.out, norm_val]
  have hle : l.length ≤ a.length + 1 := by have := norm_len_le a; rw [← HX.out] at this; omega
  have HS3 := Lib.hid hs3; clear hs3
  have HC := Lib.hid hc; clear hc
  have HV := Lib.hid hvv; clear hvv hv
  have HLE := Lib.hid hle; clear hle hlen
  have HB3 := Lib.hid hb3; clear hb3 b3
  go_wp2
  go_ret
  exact ⟨l, s3, c3, HC.out, HV.out, HLE.out, rfl, HS3.out.alloc _, HB3.out.trans ((alloc_below _ _).mono HB3.out.size)⟩
end Go.Proofs.Ytnkinjilnccmfaa
/- order: the reference's division of digits: what is left is less than the divisor. -/
namespace Go.Own
open Go.RowKit
theorem Sl.none0' (w : World) : Sl w 1 (.slice none 0 0) 0 [] := ⟨rfl, .inl ⟨rfl, rfl⟩⟩
end Go.Own
namespace Go.Big
theorem dg_two {l : List Nat} (h : l.length ≤ 2) : dg l 1 * 1000000000 + dg l 0 = val l := by
  match l, h with
  | [], _ => rfl
  | [a], _ => simp [dg, val]
  | [a, b], _ => show b * 1000000000 + a = a + 1000000000 * (b + 1000000000 * 0); omega
theorem val_pos {l : List Nat} (h : Big.Can l) (hl : l ≠ []) : 0 < val l := by
  rcases Nat.eq_zero_or_pos (val l) with h0 | h0
  · have := norm_nil.2 h0
    rw [h.2] at this; exact absurd this hl
  · exact h0
theorem sub_norm {a b : List Nat} (ha : Dig a) (hb : Big.Can b) (h : val b ≤ val a) : Big.Can (norm (sub a b)) ∧ val (norm (sub a b)) = val a - val b := by
  obtain ⟨_, h2, h3⟩ := sub_spec ha hb h
  exact ⟨norm_can h2, by rw [norm_val, h3]⟩
/-- a round of the search -/
theorem search {lo hi mid vb vr : Nat} (h1 : lo < hi) (hm : mid = (lo + hi + 1) / 2) (l1 : lo * vb ≤ vr) (l2 : vr < (hi + 1) * vb) : lo < mid ∧ mid ≤ hi ∧ (¬ vb * mid ≤ vr → vr < (mid - 1 + 1) * vb) ∧ (vb * mid ≤ vr → mid * vb ≤ vr) := by
  refine ⟨by omega, by omega, fun h => ?_, fun h => by rw [Nat.mul_comm]; exact h⟩
  rw [show mid - 1 + 1 = mid by omega, Nat.mul_comm]; omega
end Go.Big
namespace Go.Proofs.Ytnkinjilnccmfaa
open Go.RowKit Go.Own Go.BigFrame Go.Big
set_option maxRecDepth 100000 in
set_option maxHeartbeats 6400000 in
theorem divided_long (a b : List Nat) (s t : Option Addr) (ca cb : Nat) (w : World) (ha : Dig a) (hb : Big.Can b) (hb0 : b ≠ []) (hl : Sz w (.slice s a.length ca) a.length (nts a)) (hm : Sz w (.slice t b.length cb) b.length (nts b)) (hla : a.length + 8 ≤ LL) (hlb : b.length + 8 ≤ LL) (hcb : b.length ≤ cb) (hsh : 2 < a.length ∨ (a.length ≤ 2 ∧ 2 < b.length)) :
    Calls Try.prog 87 #[.slice s a.length ca, .slice t b.length cb] w fun e w' => ∃ q r sq cq sr cr, e = .returned (.tuple #[.slice sq q.length cq, .slice sr r.length cr]) ∧ Sl w' 1 (.slice sq q.length cq) q.length (nts q) ∧ Sl w' 1 (.slice sr r.length cr) r.length (nts r) ∧ q.length ≤ cq ∧ q.length + 8 ≤ LL ∧ Big.Can r ∧ val r < val b ∧ Below w.heap.size w w' := by
  have hvb := val_pos hb hb0
  have HL := Lib.hid hl; clear hl
  have HM := Lib.hid hm; clear hm
  have HA := Lib.hid ha; clear ha
  have HB := Lib.hid hb; clear hb
  have HVB := Lib.hid hvb; clear hvb hb0
  have HCB := Lib.hid hcb; clear hcb
  have HLB := Lib.hid hlb; clear hlb
  have hla2 : (a.length : Int) ≤ 17592186044392 := by unfold LL at hla; omega
  have HLA := Lib.hid hla; clear hla
  obtain ⟨W1, hW1⟩ : ∃ W1, W1 = w.alloc (.cells (Array.replicate a.length (.int .i64 0)) 3) := ⟨_, rfl⟩
  have b1 : Below w.heap.size w W1 := by rw [hW1]; exact alloc_below _ _
  have B1 : Blk W1 w.heap.size (nts (List.replicate a.length 0)) 3 := by rw [hW1, nts_rep]; exact blk_make w _ _ _
  have hmk := fun u => mk_ints a.length (by have := HLA.out; unfold LL at this; omega) u
  have hz1 : W1.heap.size = w.heap.size + 1 := by rw [hW1, alloc_size]
  have HZ1 := Lib.hid hz1; clear hz1
  have HW1 := Lib.hid hW1; clear hW1
  have HB1 := Lib.hid b1; clear b1
  have HK1 := Lib.hid B1; clear B1
  have hcase : (((a.length : Int) ≤ 2) = False) ∨ (((a.length : Int) ≤ 2) ∧ ((b.length : Int) ≤ 2) = False) := by
    rcases hsh with h | ⟨h, h2⟩
    · exact .inl (eq_false (by omega))
    · exact .inr ⟨by omega, eq_false (by omega)⟩
  clear hsh
  rcases hcase with hc | ⟨hc, hc2⟩
  all_goals (
    go_enter Try.func87, Try.ntmps87
    go_wp2
    rw [← HW1.out]
    go_loopw [9, 10] (fun v9 v10 wr => ∃ n : Nat, n ≤ a.length ∧ v10 = .int .i64 ((n : Int) - 1) ∧ ∃ R sR cR, v9 = .slice sR R.length cR ∧ Sl wr 1 v9 R.length (nts R) ∧ Big.Can R ∧ val R < val b ∧ (∀ g, v9.ownBlock = some g → w.heap.size < g) ∧ (∃ Q, Blk wr w.heap.size (nts Q) 3 ∧ Q.length = a.length) ∧ Below w.heap.size w wr) (fun _ v10 _ => (vInt v10 + 1).toNat)
    case atStart => exact ⟨a.length, Nat.le_refl _, rfl, [], none, 0, rfl, Sl.none0' _, ⟨fun d hd => (by cases hd), rfl⟩, HVB.out, fun g hg => (by cases hg), ⟨_, HK1.out, by simp⟩, HB1.out⟩
    case round =>
      obtain ⟨n, hn, rfl, R, sR, cR, rfl, hR, hRc, hRv, hRo, ⟨Q, hQ, hQl⟩, hbr⟩ := hrel
      clear hc hmk
      have HRO := Lib.hid hRo; clear hRo
      have HRV := Lib.hid hRv; clear hRv
      have HRC := Lib.hid hRc; clear hRc
      have HR := Lib.hid hR; clear hR
      have HQ := Lib.hid hQ; clear hQ
      have HQL := Lib.hid hQl; clear hQl
      have HBR := Lib.hid hbr; clear hbr
      by_cases h0 : 0 < n
      · obtain ⟨q, hq⟩ : ∃ q, q = n - 1 := ⟨_, rfl⟩
        have eq1 : (n : Int) - 1 = (q : Int) := by omega
        rw [eq1]
        have hqa : q < a.length := by omega
        have hqa' : (q : Int) < a.length := by omega
        have hq0 : (0 : Int) ≤ q := by omega
        obtain ⟨g, o, rfl, _, _, hC, hg⟩ := sl_at (HL.out (by omega)) (by omega)
        obtain ⟨x, hx⟩ : ∃ x, x = a[q] := ⟨_, rfl⟩
        have cx : wr.cell? ⟨g, o + q, none⟩ = some (.int .i64 (x : Nat)) := by rw [hx]; exact (hC.below HBR.out hg) q _ (nts_at hqa)
        have hxB : x < 1000000000 := by rw [hx]; exact HA.out _ (List.getElem_mem _)
        have HNQ := Lib.hid (show q + 1 = n by omega)
        have HXQ := Lib.hid hqa
        clear hx hC eq1 hq h0 hn hqa
        have hRl := len_le (HRC.out).1 HB.out
        have hRl2 : R.length ≤ b.length := Nat.le_of_not_lt fun h => by
          have := len_lt (HB.out).1 HRC.out h
          have := HRV.out; omega
        have HRL := Lib.hid hRl2; clear hRl hRl2
        have hown := own_new wr #[.int .i64 (x : Int)] 3 1 wr.heap.size rfl (by decide) (Nat.le_refl _)
        go_wp2_with (refine wpList_append_sl rfl _ _ 50 rfl wr.heap.size 3 (.int .i64 0) 1 8 hTint infoInt rfl (by decide) _ 1 _ rfl hown _ R.length (nts R) rfl (HR.out.alloc _) (by intro u hu; unfold nts at hu; obtain ⟨d, _, rfl⟩ := List.mem_map.1 hu; rfl) (by have := HRL.out; have := HLB.out; unfold LL at this; unfold maxLen; omega) (by have := HRL.out; have := HLB.out; unfold LL at this; omega) (by simp) ?_)
        intro v' w8 g1 g2
        have b8 : Below wr.heap.size wr w8 := grown_below (alloc_below _ _) hown g2 (by simp)
        obtain ⟨L, hL⟩ : ∃ L, L = x :: R := ⟨_, rfl⟩
        have hnl : Value.int .i64 (x : Int) :: nts R = nts L := by rw [hL]; rfl
        rw [hnl, show 1 + R.length = L.length by rw [hL]; simp; omega] at g1
        have hLd : Dig L := by rw [hL]; exact fun d hd => (List.mem_cons.1 hd).elim (fun h => by rw [h]; exact hxB) fun h => (HRC.out).1 d h
        have hLv : val L < 1000000000 * val b := by rw [hL, val]; have := HRV.out; have hBB : B = 1000000000 := rfl; rw [hBB]; omega
        have hLl : L.length ≤ b.length + 1 := by rw [hL]; have := HRL.out; simp; omega
        have HLD := Lib.hid hLd; clear hLd
        have HLV := Lib.hid hLv; clear hLv
        have HLL := Lib.hid hLl; clear hLl hL hnl hown
        obtain ⟨sv, cv, rfl, hvo⟩ := own_slice g1
        have hvsl := Sl.of_owns g1
        have hcv : L.length ≤ cv := by obtain ⟨_, _, e, h, _⟩ := sl_slice hvsl; injection e with _ _ e3; omega
        have hnm := normal_any false L sv cv w8 (Sz.of hvsl) (by have := HLL.out; have := HLB.out; omega) hcv
        have HNM := Lib.hid hnm; clear hnm hvsl g1 g2 hcv
        have HVO := Lib.hid hvo; clear hvo
        have HB8 := Lib.hid b8; clear b8
        go_wp2_with (fail)
        refine HNM.out.mono ?_
        rintro e w9 ⟨s1, c1, rfl, hs1, hc1, hss, b9⟩
        have ho1 : ∀ g, (Value.slice s1 (norm L).length c1).ownBlock = some g → w.heap.size < g := fun g hg => by
          rcases hss with rfl | rfl
          · cases hg
          · have := HVO.out g (by cases s1 with
              | none => cases hg
              | some q => exact hg)
            have := (HBR.out).size
            have := (HQ.out).lt
            omega
        obtain ⟨N, hN⟩ : ∃ N, N = norm L := ⟨_, rfl⟩
        have ebf : (false && !(norm L).isEmpty) = false := rfl
        rw [ebf]
        rw [← hN] at hs1 hc1 ho1 ⊢
        have hNc : Big.Can N := by rw [hN]; exact norm_can HLD.out
        have hNv : val N < 1000000000 * val b := by rw [hN, norm_val]; exact HLV.out
        have hNl : N.length ≤ b.length + 1 := by rw [hN]; exact Nat.le_trans (norm_len_le L) HLL.out
        have b9w : Below wr.heap.size wr w9 := HB8.out.trans (b9.mono (HB8.out).size)
        have B9 := Lib.hid b9w; clear b9w b9 hN hss
        have HS1 := Lib.hid hs1; clear hs1
        have HC1 := Lib.hid hc1; clear hc1
        have HO1 := Lib.hid ho1; clear ho1
        have HNC := Lib.hid hNc; clear hNc
        have HNV := Lib.hid hNv; clear hNv
        have HNL := Lib.hid hNl; clear hNl
        obtain ⟨U1, hU1⟩ : ∃ U1, U1 = w9.alloc (.cells #[.bool false, .slice s1 N.length c1] 52) := ⟨_, rfl⟩
        have bU1 : Below wr.heap.size wr U1 := by rw [hU1]; exact B9.out.trans ((alloc_below _ _).mono (B9.out).size)
        have hsU : ∀ U, Below U1.heap.size U1 U → Sz U (.slice s1 N.length c1) N.length (nts N) := fun U hU => Sz.of ((by rw [hU1]; exact HS1.out.alloc _ : Sl U1 1 (.slice s1 N.length c1) N.length (nts N)).below hU)
        have hbU : ∀ U, Below U1.heap.size U1 U → Sz U (.slice t b.length cb) b.length (nts b) := fun U hU => HM.out.below ((HBR.out.trans (bU1.mono (HBR.out).size)).trans (hU.mono (Nat.le_trans (HBR.out).size bU1.size)))
        have HSU := Lib.hid hsU; clear hsU
        have HBU := Lib.hid hbU; clear hbU
        have BU1 := Lib.hid bU1; clear bU1
        have hcm := compared_any N b s1 t c1 cb U1 HNC.out HB.out (HSU.out U1 (Below.refl _ _)) (HBU.out U1 (Below.refl _ _)) (by have := HNL.out; have := HLB.out; omega)
        have HCM := Lib.hid hcm; clear hcm
        have HU1 := Lib.hid hU1; clear hU1
        go_wp2_with (fail)
        rw [← HU1.out]
        refine HCM.out.mono ?_
        rintro e w10 ⟨c, rfl, hclt, _, b10⟩
        have hst : ∃ hi : Nat, ((c < 0 ∧ hi = 0) ∨ ((c < 0) = False ∧ hi = 999999999)) ∧ val N < (hi + 1) * val b := by
          by_cases h : c < 0
          · exact ⟨0, .inl ⟨h, rfl⟩, by have := hclt.1 h; omega⟩
          · exact ⟨999999999, .inr ⟨eq_false h, rfl⟩, by have := HNV.out; omega⟩
        have HB10 := Lib.hid b10; clear b10 hclt
        obtain ⟨hi0, hcs, hhi⟩ := hst
        have HHI := Lib.hid hhi; clear hhi
        rcases hcs with ⟨hcl, rfl⟩ | ⟨hcl, rfl⟩
        all_goals (
          go_wp2
          clear hcl
          go_loopw [12, 13] (fun v12 v13 wi => ∃ lo hi : Nat, v12 = .int .i64 lo ∧ v13 = .int .i64 hi ∧ lo ≤ hi ∧ hi < 1000000000 ∧ lo * val b ≤ val N ∧ val N < (hi + 1) * val b ∧ Below U1.heap.size U1 wi) (fun v12 v13 _ => (vInt v13 - vInt v12).toNat)
          case atStart => exact ⟨0, _, rfl, rfl, Nat.zero_le _, by decide, by simp, HHI.out, HB10.out⟩
          case round =>
            obtain ⟨lo, hi, rfl, rfl, hlh, hh9, hl1, hl2, hbi⟩ := hrel
            obtain ⟨bi, hbie⟩ : ∃ bi, bi = b.length := ⟨_, rfl⟩
            by_cases hlt : lo < hi
            · have hlt' : (lo : Int) < hi := by omega
              obtain ⟨mid, hmid⟩ : ∃ mid, mid = (lo + hi + 1) / 2 := ⟨_, rfl⟩
              obtain ⟨m1, m2, m3, m4⟩ := search hlt hmid hl1 hl2
              have em : ((lo : Int) + hi + 1) / 2 = (mid : Int) := by rw [hmid]; omega
              have htm := times_any b mid (HB.out).1 (by have hBB : B = 1000000000 := rfl; omega) t cb wr (HBU.out wr hbi) (by have := HLB.out; omega) HCB.out
              have HTM := Lib.hid htm; clear htm
              have HM3 := Lib.hid m3; clear m3
              have HM4 := Lib.hid m4; clear m4 hmid
              have HBI := Lib.hid hbi; clear hbi
              have HL1 := Lib.hid hl1; clear hl1
              have HL2 := Lib.hid hl2; clear hl2
              go_wp2_with (fail)
              refine HTM.out.mono ?_
              rintro e w11 ⟨T, sT, cT, hTc, hTv, hTl, rfl, hTs, b11⟩
              have b11' : Below U1.heap.size U1 w11 := HBI.out.trans (b11.mono (HBI.out).size)
              have hcm := compared_any T N sT s1 cT c1 w11 hTc HNC.out (Sz.of hTs) (HSU.out w11 b11') (by have := HLB.out; omega)
              rw [hTv] at hcm
              have HCM2 := Lib.hid hcm; clear hcm
              have HB11 := Lib.hid b11'; clear b11' b11 hTs hTl hTv hTc
              go_wp2_with (fail)
              refine HCM2.out.mono ?_
              rintro e w12 ⟨c, rfl, _, hcle, b12⟩
              have b12' : Below U1.heap.size U1 w12 := HB11.out.trans (b12.mono (HB11.out).size)
              have HB12 := Lib.hid b12'; clear b12' b12
              by_cases hcc : c ≤ 0
              · have hle := HM4.out (hcle.1 hcc)
                have HLE := Lib.hid hle; clear hle hcle
                go_wp2
                go_roundw
                case rel => exact ⟨mid, hi, rfl, rfl, m2, hh9, HLE.out, HL2.out, HB12.out⟩
                case measure => simp [vInt]; omega
              · have hle := HM3.out (fun h => hcc (hcle.2 h))
                have HLE := Lib.hid hle; clear hle hcle
                have hcc' : (c ≤ 0) = False := eq_false hcc
                obtain ⟨md, hmd⟩ : ∃ md, md = mid - 1 := ⟨_, rfl⟩
                have emd : (mid : Int) - 1 = (md : Int) := by omega
                have HMD := Lib.hid hmd; clear hmd
                go_wp2
                go_roundw
                case rel => exact ⟨lo, md, rfl, rfl, by have := HMD.out; omega, by have := HMD.out; omega, HL1.out, by rw [HMD.out]; exact HLE.out, HB12.out⟩
                case measure => simp [vInt]; have := HMD.out; omega
            · have hlt' : ((lo : Int) < hi) = False := eq_false (by omega)
              obtain rfl : lo = hi := by omega
              have htm := times_any b lo (HB.out).1 (by have hBB : B = 1000000000 := rfl; omega) t cb wr (HBU.out wr hbi) (by have := HLB.out; omega) HCB.out
              have HTM := Lib.hid htm; clear htm
              have HBI := Lib.hid hbi; clear hbi
              have HL1 := Lib.hid hl1; clear hl1
              have HL2 := Lib.hid hl2; clear hl2
              go_wp2_with (fail)
              refine HTM.out.mono ?_
              rintro e w11 ⟨T, sT, cT, hTc, hTv, hTl, rfl, hTs, b11⟩
              have b11' : Below U1.heap.size U1 w11 := HBI.out.trans (b11.mono (HBI.out).size)
              have hmi := minus_any N T s1 sT c1 cT w11 (HNC.out).1 hTc.1 (HSU.out w11 b11') (Sz.of hTs) (by have := HNL.out; have := HLB.out; omega)
              have hsn := sub_norm (HNC.out).1 hTc (by rw [hTv, Nat.mul_comm]; exact HL1.out)
              have hsl : (sub N T).length = N.length := (sub_spec (HNC.out).1 hTc (by rw [hTv, Nat.mul_comm]; exact HL1.out)).1
              have hsv : val N - val T < val b := by
                have h2 := HL2.out
                have h1 := HL1.out
                rw [hTv, Nat.mul_comm (val b) lo]
                rw [Nat.add_mul, Nat.one_mul] at h2
                omega
              have HMI := Lib.hid hmi; clear hmi
              obtain ⟨S, hS⟩ : ∃ S, S = sub N T := ⟨_, rfl⟩
              rw [← hS] at HMI hsn hsl
              have HSN := Lib.hid hsn; clear hsn
              have HSL := Lib.hid hsl; clear hsl
              have HSV := Lib.hid hsv; clear hsv
              have HB11 := Lib.hid b11'; clear b11' b11 hTs hTl hTv hTc
              clear hS
              go_wp2_with (fail)
              refine HMI.out.mono ?_
              rintro e w12 ⟨s2, c2, rfl, hs2, ho2, b12⟩
              have b12' : Below U1.heap.size U1 w12 := HB11.out.trans (b12.mono (HB11.out).size)
              have hc2 : S.length ≤ c2 := by obtain ⟨_, _, e, h, _⟩ := sl_slice hs2; injection e with _ _ e3; omega
              have hnm := normal_any false S s2 c2 w12 (Sz.of hs2) (by have := HSL.out; have := HNL.out; have := HLB.out; omega) hc2
              have HNM2 := Lib.hid hnm; clear hnm hs2 hc2
              have HO2 := Lib.hid ho2; clear ho2
              have HB12 := Lib.hid b12'; clear b12' b12
              go_wp2_with (fail)
              refine HNM2.out.mono ?_
              rintro e w13 ⟨s3, c3, rfl, hs3, hc3, hss, b13⟩
              have b13' : Below U1.heap.size U1 w13 := HB12.out.trans (b13.mono (HB12.out).size)
              have hGU : w.heap.size < U1.heap.size := Nat.lt_of_lt_of_le (HQ.out).lt (BU1.out).size
              have ho3 : ∀ g, (Value.slice s3 (norm S).length c3).ownBlock = some g → w.heap.size < g := fun g hg => by
                rcases hss with rfl | rfl
                · cases hg
                · have := HO2.out g (by cases s3 with
                    | none => cases hg
                    | some q => exact hg)
                  have := (HB11.out).size
                  omega
              have ebf2 : (false && !(norm S).isEmpty) = false := rfl
              rw [ebf2]
              obtain ⟨P, hP⟩ : ∃ P, P = norm S := ⟨_, rfl⟩
              rw [← hP] at hs3 hc3 ho3 ⊢
              have hPc : Big.Can P ∧ val P = val N - val T := by rw [hP]; exact HSN.out
              have hPv : val P < val b := by rw [hPc.2]; exact HSV.out
              have HPC := Lib.hid hPc; clear hPc
              have HPV := Lib.hid hPv; clear hPv
              obtain ⟨U2, hU2⟩ : ∃ U2, U2 = w13.alloc (.cells #[.bool false, .slice s3 P.length c3] 52) := ⟨_, rfl⟩
              have bU2 : Below U1.heap.size U1 U2 := by rw [hU2]; exact b13'.trans ((alloc_below _ _).mono b13'.size)
              have hQ2 : Blk U2 w.heap.size (nts Q) 3 := ((HQ.out).below (BU1.out) (HQ.out).lt).below bU2 hGU
              have f2 : U2.frozen? ⟨w.heap.size, q, none⟩ = false := hQ2.frozen q
              have k2 : ∃ z, U2.cell? ⟨w.heap.size, q, none⟩ = some z := ⟨_, hQ2.cell (nts_get (List.getElem?_eq_getElem (by have := HXQ.out; have := HQL.out; omega)))⟩
              obtain ⟨z2, k2⟩ := k2
              have y2 : U2.cell? ⟨w13.heap.size, 1, none⟩ = some (.slice s3 P.length c3) := by rw [hU2]; exact (Blk.new w13 #[.bool false, .slice s3 P.length c3] 52).cell rfl
              have s2' : Sl U2 1 (.slice s3 P.length c3) P.length (nts P) := by rw [hU2]; exact hs3.alloc _
              have hne : w13.heap.size ≠ w.heap.size := by have := b13'.size; omega
              have hwU2 : Below w.heap.size w U2 := (HBR.out.trans ((BU1.out).mono (HBR.out).size)).trans (bU2.mono (Nat.le_of_lt hGU))
              obtain ⟨U3, hU3⟩ : ∃ U3, U3 = U2.setCell ⟨w.heap.size, q, none⟩ (.int .i64 (lo : Nat)) := ⟨_, rfl⟩
              have hch : Chg [w.heap.size] U2 U3 := by rw [hU3]; exact (Chg.refl [w.heap.size] U2).set (a := ⟨w.heap.size, q, none⟩) _ (by simp)
              have hQ3 : Blk U3 w.heap.size (nts (Q.set q lo)) 3 := by rw [hU3, ← nts_set]; exact hQ2.set q _
              have y3 : U3.cell? ⟨w13.heap.size, 1, none⟩ = some (.slice s3 P.length c3) := by
                rw [← y2]; exact World.cell?_of_block (w := U2) (hch.block _ (World.block_lt_of_cell? _ _ y2) (by simpa using hne))
              have hwU3 : Below w.heap.size w U3 := hwU2.trans (hch.below hwU2.size (by simp))
              have s3' : Sl U3 1 (.slice s3 P.length c3) P.length (nts P) := s2'.chg hch fun b hb hbF => by
                have := ho3 b hb
                have := List.mem_singleton.1 hbF
                omega
              have HQ3 := Lib.hid hQ3; clear hQ3 hQ2
              have HS3 := Lib.hid s3'; clear s3' s2' hs3
              have HW3 := Lib.hid hwU3; clear hwU3 hwU2 hch bU2
              have HO3 := Lib.hid ho3; clear ho3
              have HU2 := Lib.hid hU2; clear hU2
              have HU3 := Lib.hid hU3; clear hU3 hP hss hc3 b13 b13' y2
              rw [HU2.out] at f2 k2
              rw [HU3.out, HU2.out] at y3
              have hneg2 : ((q : Int) - 1) = (q : Int) - 1 := rfl
              go_wp2
              go_roundw
              case rel =>
                refine ⟨q, by have := HXQ.out; omega, rfl, P, s3, c3, rfl, ?_⟩
                rw [← HU2.out, ← HU3.out]
                exact ⟨HS3.out, (HPC.out).1, HPV.out, HO3.out, ⟨_, HQ3.out, by rw [List.length_set]; exact HQL.out⟩, HW3.out⟩
              case measure => simp [vInt])
      · obtain rfl : n = 0 := by omega
        have hneg : ((0 : Int) ≤ ((0 : Nat) : Int) - 1) = False := eq_false (by omega)
        have hsq : Sl wr 1 (.slice (some ⟨w.heap.size, 0, none⟩) a.length a.length) a.length (nts Q) := sl_blk HQ.out (by rw [nts_len]; exact HQL.out) (by have := HLA.out; unfold LL at this; unfold maxLen; omega)
        have HSQ := Lib.hid hsq; clear hsq
        go_wp2
        refine bodyPost_ret (results_tmp2 rfl _ _ _) rfl ?_
        refine ⟨Q, R, some ⟨w.heap.size, 0, none⟩, a.length, sR, cR, ?_, ?_, HR.out, ?_, ?_, HRC.out, HRV.out, HBR.out⟩
        · rw [HQL.out]; rfl
        · rw [HQL.out]; exact HSQ.out
        · rw [HQL.out]; exact Nat.le_refl _
        · rw [HQL.out]; exact HLA.out)
end Go.Proofs.Ytnkinjilnccmfaa
/- order: the reference's division of short numbers; divided; Div of numbers without a sign. -/
namespace Go.Proofs.Ytnkinjilnccmfaa
open Go.RowKit Go.Own Go.BigFrame Go.Big
theorem val_two {l : List Nat} (h : Dig l) (hl : l.length ≤ 2) : val l < 1000000000000000000 := by
  have h1 := val_lt h
  have : B ^ l.length ≤ B ^ 2 := Nat.pow_le_pow_right (by decide) hl
  have e : B ^ 2 = 1000000000000000000 := by decide
  omega
set_option maxRecDepth 100000 in
set_option maxHeartbeats 1600000 in
theorem divided_short (a b : List Nat) (s t : Option Addr) (ca cb : Nat) (w : World) (ha : Dig a) (hb : Big.Can b) (hb0 : b ≠ []) (hl : Sz w (.slice s a.length ca) a.length (nts a)) (hm : Sz w (.slice t b.length cb) b.length (nts b)) (hsa : a.length ≤ 2) (hsb : b.length ≤ 2) :
    Calls Try.prog 87 #[.slice s a.length ca, .slice t b.length cb] w fun e w' => ∃ q r sq cq sr cr, e = .returned (.tuple #[.slice sq q.length cq, .slice sr r.length cr]) ∧ Sl w' 1 (.slice sq q.length cq) q.length (nts q) ∧ Sl w' 1 (.slice sr r.length cr) r.length (nts r) ∧ q.length ≤ cq ∧ q.length + 8 ≤ LL ∧ Big.Can r ∧ val r < val b ∧ Below w.heap.size w w' := by
  have hvb := val_pos hb hb0
  have ta := fun W (h : Below w.heap.size w W) => tiny_any a s ca W ha (hl.below h)
  have tb := fun W (h : Below w.heap.size w W) => tiny_any b t cb W hb.1 (hm.below h)
  have va := val_two ha hsa
  have vb := val_two hb.1 hsb
  rw [dg_two hsa] at ta
  rw [dg_two hsb] at tb
  obtain ⟨x, hx⟩ : ∃ x, x = val a := ⟨_, rfl⟩
  obtain ⟨y, hy⟩ : ∃ y, y = val b := ⟨_, rfl⟩
  rw [← hx] at ta va
  rw [← hy] at tb vb hvb
  have hsa' : (a.length : Int) ≤ 2 := by omega
  have hsb' : (b.length : Int) ≤ 2 := by omega
  have hy0 : ((y : Int) = 0) = False := eq_false (by omega)
  have hy1 : ((y : Int) == 0) = false := beq_eq_false_iff_ne.2 (by omega)
  obtain ⟨q, hq⟩ : ∃ q, q = x / y := ⟨_, rfl⟩
  obtain ⟨r, hr⟩ : ∃ r, r = x % y := ⟨_, rfl⟩
  have eq1 : (x : Int) / (y : Int) = (q : Int) := by rw [hq]; exact (Int.natCast_ediv x y).symm
  have er1 : (x : Int) % (y : Int) = (r : Int) := by rw [hr]; exact (Int.natCast_emod x y).symm
  have eq2 : (x : Int).tdiv (y : Int) = (q : Int) := by rw [hq, Int.ofNat_tdiv]
  have er2 : (x : Int).tmod (y : Int) = (r : Int) := by rw [hr, Int.ofNat_tmod]
  have hqx : q ≤ x := by rw [hq]; exact Nat.div_le_self _ _
  have hry : r < y := by rw [hr]; exact Nat.mod_lt _ hvb
  have oq := fun W => of_any q (by omega) W
  have or' := fun W => of_any r (by omega) W
  have TA := Lib.hid ta; clear ta
  have TB := Lib.hid tb; clear tb
  have OQ := Lib.hid oq; clear oq
  have OR := Lib.hid or'; clear or'
  have HY := Lib.hid hy; clear hy
  clear hl hm hq hr ha hb hb0 hx
  have HRY := Lib.hid hry; clear hry
  have HQX := Lib.hid hqx; clear hqx
  go_enter Try.func87, Try.ntmps87
  go_wp2_with (fail)
  refine ((TA.out w (Below.refl _ _))).mono ?_
  rintro e w1 ⟨rfl, h⟩
  have h2 := h.symm; clear h; subst h2
  go_wp2_with (fail)
  refine ((TB.out w (Below.refl _ _))).mono ?_
  rintro e w1 ⟨rfl, h⟩
  have h2 := h.symm; clear h; subst h2
  have hwq : wrap64 (q : Int) = (q : Int) := Go.IntWalk.wrap64_in _ (by have := HQX.out; omega)
  go_wp2_with (fail)
  refine (OQ.out w).mono ?_
  rintro e w1 ⟨s1, c1, rfl, hs1, b1⟩
  clear hwq
  have B1 := Lib.hid b1; clear b1
  obtain ⟨Q, hQ⟩ : ∃ Q, Q = dgs q := ⟨_, rfl⟩
  have hQ3 := dgs_len (n := q) (by have := HQX.out; omega)
  rw [← hQ] at hs1 hQ3 ⊢
  have HS1 := Lib.hid hs1; clear hs1 hQ
  have HQ3 := Lib.hid hQ3; clear hQ3
  obtain ⟨U1, hU1⟩ : ∃ U1, U1 = w1.alloc (.cells #[.bool false, .slice s1 Q.length c1] 52) := ⟨_, rfl⟩
  have bU : Below w.heap.size w U1 := by rw [hU1]; exact B1.out.trans ((alloc_below _ _).mono (B1.out).size)
  have kU : Blk U1 w1.heap.size [.bool false, .slice s1 Q.length c1] 52 := by rw [hU1]; exact Blk.new w1 #[.bool false, .slice s1 Q.length c1] 52
  have sU : Sl U1 1 (.slice s1 Q.length c1) Q.length (nts Q) := by rw [hU1]; exact HS1.out.alloc _
  have HU1 := Lib.hid hU1; clear hU1
  have BU := Lib.hid bU; clear bU
  have KU := Lib.hid kU; clear kU
  have SU := Lib.hid sU; clear sU
  go_wp2_with (fail)
  rw [← HU1.out]
  refine ((TA.out U1 BU.out)).mono ?_
  rintro e w2 ⟨rfl, h⟩
  have h2 := h.symm; clear h; subst h2
  go_wp2_with (fail)
  refine ((TB.out U1 BU.out)).mono ?_
  rintro e w2 ⟨rfl, h⟩
  have h2 := h.symm; clear h; subst h2
  have hwr : wrap64 (r : Int) = (r : Int) := Go.IntWalk.wrap64_in _ (by have := HRY.out; omega)
  go_wp2_with (fail)
  refine (OR.out U1).mono ?_
  rintro e w2 ⟨s2, c2, rfl, hs2, b2⟩
  clear hwr
  have B2 := Lib.hid b2; clear b2
  obtain ⟨R, hR⟩ : ∃ R, R = dgs r := ⟨_, rfl⟩
  have hRc := dgs_all r
  rw [← hR] at hs2 hRc ⊢
  have HS2 := Lib.hid hs2; clear hs2 hR
  have HRC := Lib.hid hRc; clear hRc
  obtain ⟨U2, hU2⟩ : ∃ U2, U2 = w2.alloc (.cells #[.bool false, .slice s2 R.length c2] 52) := ⟨_, rfl⟩
  have bU : Below U1.heap.size U1 U2 := by rw [hU2]; exact B2.out.trans ((alloc_below _ _).mono (B2.out).size)
  have kU : Blk U2 w1.heap.size [.bool false, .slice s1 Q.length c1] 52 := KU.out.below bU (KU.out).lt
  have kU2 : Blk U2 w2.heap.size [.bool false, .slice s2 R.length c2] 52 := by rw [hU2]; exact Blk.new w2 #[.bool false, .slice s2 R.length c2] 52
  have sU : Sl U2 1 (.slice s1 Q.length c1) Q.length (nts Q) := SU.out.below bU
  have sU2 : Sl U2 1 (.slice s2 R.length c2) R.length (nts R) := by rw [hU2]; exact HS2.out.alloc _
  have hbU2 : Below w.heap.size w U2 := BU.out.trans (bU.mono (BU.out).size)
  have HS := Lib.hid sU; clear sU
  have HS22 := Lib.hid sU2; clear sU2
  have HBU2 := Lib.hid hbU2; clear hbU2 bU
  have y1 : U2.cell? ⟨w1.heap.size, 1, none⟩ = some (.slice s1 Q.length c1) := kU.cell rfl
  have y2 : U2.cell? ⟨w2.heap.size, 1, none⟩ = some (.slice s2 R.length c2) := kU2.cell rfl
  have HU2 := Lib.hid hU2; clear hU2 kU kU2
  go_wp2
  rw [← HU2.out]
  go_quiet (fail)
  go_wp2
  refine bodyPost_ret (results_tmp2 rfl _ _ _) rfl ?_
  refine ⟨Q, R, s1, c1, s2, c2, rfl, (HS.out).drewN _, (HS22.out).drewN _, ?_, ?_, ⟨(HRC.out).2.1, (HRC.out).2.2⟩, ?_, below_drewN HBU2.out _⟩
  · obtain ⟨_, _, e, h, _⟩ := sl_slice HS.out; injection e with _ _ e3; omega
  · have := HQ3.out; unfold LL; omega
  · rw [(HRC.out).1, ← HY.out]; exact HRY.out
theorem divided_any (a b : List Nat) (s t : Option Addr) (ca cb : Nat) (w : World) (ha : Dig a) (hb : Big.Can b) (hb0 : b ≠ []) (hl : Sz w (.slice s a.length ca) a.length (nts a)) (hm : Sz w (.slice t b.length cb) b.length (nts b)) (hla : a.length + 8 ≤ LL) (hlb : b.length + 8 ≤ LL) (hcb : b.length ≤ cb) :
    Calls Try.prog 87 #[.slice s a.length ca, .slice t b.length cb] w fun e w' => ∃ q r sq cq sr cr, e = .returned (.tuple #[.slice sq q.length cq, .slice sr r.length cr]) ∧ Sl w' 1 (.slice sq q.length cq) q.length (nts q) ∧ Sl w' 1 (.slice sr r.length cr) r.length (nts r) ∧ q.length ≤ cq ∧ q.length + 8 ≤ LL ∧ Big.Can r ∧ val r < val b ∧ Below w.heap.size w w' := by
  by_cases h1 : 2 < a.length
  · exact divided_long a b s t ca cb w ha hb hb0 hl hm hla hlb hcb (.inl h1)
  · by_cases h2 : 2 < b.length
    · exact divided_long a b s t ca cb w ha hb hb0 hl hm hla hlb hcb (.inr ⟨by omega, h2⟩)
    · exact divided_short a b s t ca cb w ha hb hb0 hl hm (by omega) (by omega)
end Go.Proofs.Ytnkinjilnccmfaa
