/- order: the reference's Add and sum. -/
import Derived.Test.YtnkinjilnccmfaaQ20
namespace Go.Order
open Go.RowKit Go.Own Go.Proofs.Ytnkinjilnccmfaa
def addS (l : List Int) (x : Int) : List Int := l.filter (fun y => decide (y < x)) ++ [x] ++ l.filter (fun y => decide (x < y))
theorem filter_take {α : Type} {p : α → Bool} {l : List α} {i : Nat} (h : i < l.length) : (l.take (i + 1)).filter p = (l.take i).filter p ++ (if p l[i] = true then [l[i]] else []) := by
  rw [List.take_succ_eq_append_getElem h, List.filter_append]
  congr 1
  by_cases e : p l[i] = true
  · rw [if_pos e, List.filter_cons_of_pos e]; rfl
  · rw [if_neg e, List.filter_cons_of_neg e]; rfl
theorem filter_take_len {α : Type} (p : α → Bool) (l : List α) (i : Nat) : ((l.take i).filter p).length ≤ l.length := by
  have h1 := List.length_filter_le p (l.take i)
  rw [List.length_take] at h1
  omega
/-- the sum of a set in a table; -1: it is not there -/
def sumT : List Int → List Int → Int → Int
  | s :: l, n :: m, x => if s = x then n else sumT l m x
  | _, _, _ => -1
theorem sumT_at : ∀ {l m : List Int} {x : Int} {i : Nat} (h : i < l.length) (h' : i < m.length), (∀ j (h : j < l.length), j < i → l[j] ≠ x) → l[i] = x → sumT l m x = m[i]
  | s :: l, n :: m, x, 0, _, _, _, e => by
    have : s = x := e
    unfold sumT; rw [if_pos this]; rfl
  | s :: l, n :: m, x, i + 1, h, h', hn, e => by
    have h0 : s ≠ x := hn 0 (by simp) (by omega)
    unfold sumT
    rw [if_neg h0]
    exact sumT_at (by simpa using h) (by simpa using h') (fun j hj hji => hn (j + 1) (by simpa using hj) (by omega)) e
theorem sumT_none : ∀ {l m : List Int} {x : Int}, (∀ j (h : j < l.length), l[j] ≠ x) → sumT l m x = -1
  | [], m, x, _ => by unfold sumT; rfl
  | s :: l, [], x, _ => by unfold sumT; rfl
  | s :: l, n :: m, x, hn => by
    have h0 : s ≠ x := hn 0 (by simp)
    unfold sumT
    rw [if_neg h0]
    exact sumT_none fun j hj => hn (j + 1) (by simpa using hj)
end Go.Order
namespace Go.Proofs.Ytnkinjilnccmfaa
open Go.RowKit Go.Own Go.BigFrame Go.Big Go.Order
theorem hTsets : Try.prog.underlying 24 = some (.slice 22) := by kernel_rfl
theorem infoSet8 : (Try.prog.info? 22).map (fun i => (i.zero, i.size, i.bytes)) = some (some (.int .i64 0), 1, 8) := by kernel_rfl
set_option maxRecDepth 100000 in
set_option maxHeartbeats 1600000 in
theorem radd_any (l : List Int) (x : Int) (s : Option Addr) (ca : Nat) (w : World) (hl : Sz w (.slice s l.length ca) l.length (intsI l)) (hn : l.length < 1000000) :
    Calls Try.prog 68 #[.slice s l.length ca, .int .i64 x] w fun e w' => ∃ v, e = .returned v ∧ w'.ownsRow w.heap.size 22 1 v (addS l x).length (intsI (addS l x)) ∧ Below w.heap.size w w' := by
  have hn2 : (l.length : Int) < 4611686018427387904 := by omega
  have HL := Lib.hid hl; clear hl
  have HN := Lib.hid hn; clear hn
  obtain ⟨wz, hwz⟩ : ∃ wz, wz = w := ⟨_, rfl⟩
  rw [← hwz]
  rw [← hwz] at HL
  clear hwz
  go_enter Try.func68, Try.ntmps68
  go_wp2
  go_loopw [5, 6] (fun v5 v wr => ∃ (i : Nat) (L : List Int), i ≤ l.length ∧ v = .int .i64 i ∧ L = (l.take i).filter (fun y => decide (y < x)) ∧ wr.ownsRow wz.heap.size 22 1 v5 L.length (intsI L) ∧ Below wz.heap.size wz wr) (fun _ v _ => l.length - (vInt v).toNat)
  case atStart => exact ⟨0, [], Nat.zero_le _, rfl, rfl, World.ownsRow_nil _ _ _ _, Below.refl _ _⟩
  case round =>
    obtain ⟨i, L, hi, rfl, hL, how, hbr⟩ := hrel
    have hLl : L.length ≤ l.length := by rw [hL]; exact filter_take_len _ _ _
    have HLE := Lib.hid hL; clear hL
    by_cases hil : i < l.length
    · have hil' : (i : Int) < l.length := by omega
      obtain ⟨g, o, rfl, -, -, hC, hg⟩ := sl_at (HL.out (by omega)) (by omega)
      have hstp := filter_take (p := fun y => decide (y < x)) hil
      rw [← HLE.out] at hstp
      obtain ⟨y, hy⟩ : ∃ y, y = l[i] := ⟨_, rfl⟩
      have cx : wr.cell? ⟨g, o + i, none⟩ = some (.int .i64 y) := by rw [hy]; exact (hC.below hbr hg) i _ (intsI_at hil)
      rw [← hy] at hstp
      have HST := Lib.hid hstp; clear hstp hy hC
      by_cases hyx : y < x
      · have hyx' : (y < x) = True := eq_true hyx
        have hst := HST.out
        rw [if_pos (by simpa using hyx)] at hst
        have HS2 := Lib.hid hst; clear hst
        have hbsz := hbr.size
        have HOW := how.alloc (.cells #[.int .i64 y] 22)
        have hb0 : Below wz.heap.size wz (wr.alloc (.cells #[.int .i64 y] 22)) := hbr.trans ((alloc_below _ _).mono hbsz)
        have HB0 := Lib.hid hb0; clear hb0
        have HN' := HN.out
        clear hyx
        go_wp2_with (refine wpList_append_sl rfl _ _ 24 rfl wz.heap.size 22 (.int .i64 0) 1 8 hTsets infoSet8 rfl (by decide) _ L.length _ rfl HOW _ 1 [.int .i64 y] rfl (sl_new _ _ _ 1 rfl (by decide)) (by intro u hu; simp at hu; rw [hu]; rfl) (by unfold maxLen; omega) (by omega) (by simp; omega) ?_)
        intro v' w' h1 h2
        have hb9 : Below wz.heap.size wz w' := grown_below HB0.out HOW h2 (by simp; omega)
        clear cx
        go_wp2
        go_roundw
        case rel =>
          refine ⟨i + 1, L ++ [y], by omega, by go_num, HS2.out.symm, ?_, hb9⟩
          rw [List.length_append]; unfold intsI; rw [List.map_append]; exact h1
        case measure => simp [vInt]; omega
      · have hyx' : (y < x) = False := eq_false hyx
        have hst := HST.out
        rw [if_neg (by simpa using hyx), List.append_nil] at hst
        have HS2 := Lib.hid hst; clear hst hyx
        go_wp2
        go_roundw
        case rel => exact ⟨i + 1, L, by omega, by go_num, HS2.out.symm, how, hbr⟩
        case measure => simp [vInt]; omega
    · have hil' : ((i : Int) < l.length) = False := eq_false (by omega)
      have hall : L = l.filter (fun y => decide (y < x)) := by rw [HLE.out, List.take_of_length_le (by omega)]
      have HALL := Lib.hid hall; clear hall HLE
      have hbsz := hbr.size
      have HOW := how.alloc (.cells #[.int .i64 x] 22)
      have hb0 : Below wz.heap.size wz (wr.alloc (.cells #[.int .i64 x] 22)) := hbr.trans ((alloc_below _ _).mono hbsz)
      have HB0 := Lib.hid hb0; clear hb0
      have HN' := HN.out
      go_wp2_with (refine wpList_append_sl rfl _ _ 24 rfl wz.heap.size 22 (.int .i64 0) 1 8 hTsets infoSet8 rfl (by decide) _ L.length _ rfl HOW _ 1 [.int .i64 x] rfl (sl_new _ _ _ 1 rfl (by decide)) (by intro u hu; simp at hu; rw [hu]; rfl) (by unfold maxLen; omega) (by omega) (by simp; omega) ?_)
      intro v' w2 h1 h2
      have hb9 : Below wz.heap.size wz w2 := grown_below HB0.out HOW h2 (by simp; omega)
      have ho2 : w2.ownsRow wz.heap.size 22 1 v' (L ++ [x]).length (intsI (L ++ [x])) := by
        rw [List.length_append]; unfold intsI; rw [List.map_append]; exact h1
      clear HOW h1 h2 hbsz how hbr hil hil'
      have HO2 := Lib.hid ho2; clear ho2
      have HB9 := Lib.hid hb9; clear hb9 HB0
      go_wp2
      go_loopw [5, 7] (fun v5 v wr => ∃ (k : Nat) (M : List Int), k ≤ l.length ∧ v = .int .i64 k ∧ M = (l.take k).filter (fun y => decide (x < y)) ∧ wr.ownsRow wz.heap.size 22 1 v5 (L ++ [x] ++ M).length (intsI (L ++ [x] ++ M)) ∧ Below wz.heap.size wz wr) (fun _ v _ => l.length - (vInt v).toNat)
      case atStart => exact ⟨0, [], Nat.zero_le _, rfl, rfl, by rw [List.append_nil]; exact HO2.out, HB9.out⟩
      case round =>
        obtain ⟨k, M, hk, rfl, hM, how, hbr⟩ := hrel
        have hMl : M.length ≤ l.length := by rw [hM]; exact filter_take_len _ _ _
        have HME := Lib.hid hM; clear hM
        obtain ⟨T, hT⟩ : ∃ T, T = L ++ [x] ++ M := ⟨_, rfl⟩
        have hTl : T.length ≤ 2 * l.length + 1 := by rw [hT, List.length_append, List.length_append]; simp; omega
        rw [← hT] at how
        have HT := Lib.hid hT; clear hT
        by_cases hil : k < l.length
        · have hil' : (k : Int) < l.length := by omega
          obtain ⟨g, o, rfl, -, -, hC, hg⟩ := sl_at (HL.out (by omega)) (by omega)
          have hstp := filter_take (p := fun y => decide (x < y)) hil
          rw [← HME.out] at hstp
          obtain ⟨y, hy⟩ : ∃ y, y = l[k] := ⟨_, rfl⟩
          have cx : wr.cell? ⟨g, o + k, none⟩ = some (.int .i64 y) := by rw [hy]; exact (hC.below hbr hg) k _ (intsI_at hil)
          rw [← hy] at hstp
          have HST := Lib.hid hstp; clear hstp hy hC
          by_cases hyx : x < y
          · have hyx' : (x < y) = True := eq_true hyx
            have hst := HST.out
            rw [if_pos (by simpa using hyx)] at hst
            have HS2 := Lib.hid hst; clear hst
            have hbsz := hbr.size
            have HOW := how.alloc (.cells #[.int .i64 y] 22)
            have hb0 : Below wz.heap.size wz (wr.alloc (.cells #[.int .i64 y] 22)) := hbr.trans ((alloc_below _ _).mono hbsz)
            have HB0 := Lib.hid hb0; clear hb0
            have HN'' := HN.out
            clear hyx
            go_wp2_with (refine wpList_append_sl rfl _ _ 24 rfl wz.heap.size 22 (.int .i64 0) 1 8 hTsets infoSet8 rfl (by decide) _ T.length _ rfl HOW _ 1 [.int .i64 y] rfl (sl_new _ _ _ 1 rfl (by decide)) (by intro u hu; simp at hu; rw [hu]; rfl) (by unfold maxLen; omega) (by omega) (by simp; omega) ?_)
            intro v' w' h1 h2
            have hb9 : Below wz.heap.size wz w' := grown_below HB0.out HOW h2 (by simp; omega)
            clear cx
            go_wp2
            go_roundw
            case rel =>
              refine ⟨k + 1, M ++ [y], by omega, by go_num, HS2.out.symm, ?_, hb9⟩
              rw [← List.append_assoc, ← HT.out, List.length_append]; unfold intsI; rw [List.map_append]; exact h1
            case measure => simp [vInt]; omega
          · have hyx' : (x < y) = False := eq_false hyx
            have hst := HST.out
            rw [if_neg (by simpa using hyx), List.append_nil] at hst
            have HS2 := Lib.hid hst; clear hst hyx
            go_wp2
            go_roundw
            case rel => exact ⟨k + 1, M, by omega, by go_num, HS2.out.symm, by rw [← HT.out]; exact how, hbr⟩
            case measure => simp [vInt]; omega
        · have hil' : ((k : Int) < l.length) = False := eq_false (by omega)
          have hfin : T = addS l x := by rw [HT.out, HALL.out, HME.out, List.take_of_length_le (by omega)]; rfl
          have HFIN := Lib.hid hfin; clear hfin
          go_wp2
          go_ret
          rw [HFIN.out] at how
          exact ⟨_, rfl, how, hbr⟩
set_option maxRecDepth 100000 in
set_option maxHeartbeats 1600000 in
theorem rsum_any (l m : List Int) (x : Int) (s t : Option Addr) (ca cb : Nat) (w : World) (hl : Sz w (.slice s l.length ca) l.length (intsI l)) (hm : Sz w (.slice t m.length cb) m.length (intsI m)) (hlm : l.length = m.length) (hn : l.length < 1000000) :
    Calls Try.prog 39 #[.slice s l.length ca, .slice t m.length cb, .int .i64 x] w fun e w' => e = .returned (.int .i64 (sumT l m x)) ∧ w' = w := by
  have hn2 : (l.length : Int) < 4611686018427387904 := by omega
  have HL := Lib.hid hl; clear hl
  have HM := Lib.hid hm; clear hm
  have HLM := Lib.hid hlm; clear hlm hn
  go_enter Try.func39, Try.ntmps39
  go_wp2
  go_loopw [7] (fun v wr => ∃ i : Nat, i ≤ l.length ∧ v = .int .i64 i ∧ (∀ j (h : j < l.length), j < i → l[j] ≠ x) ∧ wr = w) (fun v _ => l.length - (vInt v).toNat)
  case atStart => exact ⟨0, Nat.zero_le _, rfl, fun j _ h => by omega, rfl⟩
  case round =>
    obtain ⟨i, hi, rfl, ht, rfl⟩ := hrel
    have HT := Lib.hid ht; clear ht
    by_cases hil : i < l.length
    · have hil' : (i : Int) < l.length := by omega
      have him : i < m.length := by have := HLM.out; omega
      have him' : (i : Int) < m.length := by omega
      obtain ⟨g, o, rfl, _, _, hC, hg⟩ := sl_at (HL.out (by omega)) (by omega)
      obtain ⟨g2, o2, rfl, _, _, hC2, hg2⟩ := sl_at (HM.out (by omega)) (by omega)
      have hst : l[i] ≠ x → ∀ j (h : j < l.length), j < i + 1 → l[j] ≠ x := fun he j h hj => by
        by_cases e : j = i
        · subst e; exact he
        · exact HT.out j h (by omega)
      have hin : l[i] = x → sumT l m x = m[i] := fun he => sumT_at hil him HT.out he
      obtain ⟨y, hy⟩ : ∃ y, y = l[i] := ⟨_, rfl⟩
      obtain ⟨z, hz⟩ : ∃ z, z = m[i] := ⟨_, rfl⟩
      have cx : wr.cell? ⟨g, o + i, none⟩ = some (.int .i64 y) := by rw [hy]; exact hC i _ (intsI_at hil)
      have cz : wr.cell? ⟨g2, o2 + i, none⟩ = some (.int .i64 z) := by rw [hz]; exact hC2 i _ (intsI_at him)
      rw [← hy] at hst hin
      rw [← hz] at hin
      have HST := Lib.hid hst; clear hst
      have HIN := Lib.hid hin; clear hin hy hC hz hC2
      by_cases hyx : y = x
      · have HI := Lib.hid (HIN.out hyx)
        have h1 : (y == x) = true := by rw [hyx]; simp
        have h2 : (y = x) = True := eq_true hyx
        clear hyx
        go_wp2
        go_ret
        exact ⟨by rw [HI.out]; rfl, rfl⟩
      · have HI := Lib.hid (HST.out hyx)
        have h1 : (y == x) = false := by rw [beq_eq_false_iff_ne]; exact hyx
        have h2 : (y = x) = False := eq_false hyx
        clear hyx
        go_wp2
        go_roundw
        case rel => exact ⟨i + 1, by omega, by go_num, HI.out, trivial⟩
        case measure => simp [vInt]; omega
    · have hil' : ((i : Int) < l.length) = False := eq_false (by omega)
      have he : sumT l m x = -1 := sumT_none fun j hj => HT.out j hj (by omega)
      have HE := Lib.hid he; clear he
      go_wp2
      go_ret
      exact ⟨by rw [HE.out]; rfl, rfl⟩
end Go.Proofs.Ytnkinjilnccmfaa
