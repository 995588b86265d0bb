/- label: the example, reckoned. -/
import Derived.Test.YtcbmifaobdamhaaA25
namespace Go.Label
open Go.Own Go.Proofs.Ytcbmifaobdamhaa
def ex : Lg := ⟨5, [0, 1, 2], [⟨3, [0, 1]⟩, ⟨3, [2]⟩, ⟨4, [3]⟩, ⟨-1, [1, 2]⟩]⟩
theorem ex_val : valE ex = 0 := by decide +kernel
theorem ex_ok : Ok ex := valE_ok.1 ex_val
theorem quiet_of {b : Lg} {s j : Nat} (h : ((List.range b.rules.length).all fun i => !newR (rIter b s j).1 (fun _ => none) (b.rules.getD i rl0)) = true) : Quiet b s j := by
  have aux : ∀ n, n ≤ b.rules.length → fndN b (rIter b s j).1 n = fun _ => none := fun n => by
    induction n with
    | zero => intro _; rfl
    | succ n ih =>
      intro hn
      have h1 := List.all_eq_true.1 h n (List.mem_range.2 (by omega))
      unfold fndN
      rw [ih (by omega), if_neg (by simpa using h1)]
  intro f
  unfold fnd
  rw [aux _ (Nat.le_refl _)]
theorem q3 : Quiet ex 3 2 := quiet_of (by decide +kernel)
theorem q7 : Quiet ex 7 2 := quiet_of (by decide +kernel)
theorem q6 : Quiet ex 6 2 := quiet_of (by decide +kernel)
theorem q1 : Quiet ex 1 0 := quiet_of (by decide +kernel)
instance (key : Int → Int) (x y : Int) : Decidable (lexR key x y) := by unfold lexR; exact inferInstance
theorem lex_same {key : Int → Int} {l l' : List Int} (h : l.Perm l') (h1 : l.Pairwise (lexR key)) (h2 : l'.Pairwise (lexR key)) : l = l' :=
  List.Perm.eq_of_pairwise (le := lexR key) (fun a b _ _ h3 h4 => by unfold lexR at h3 h4; omega) h1 h2 h
theorem need_small {s : Nat} {fact : Int} {j0 : Nat} (hq : Quiet ex s j0) (h : (needN ex (rIter ex s j0).2 fact 4).length ≤ 4) : ∀ j, j < 66 → Quiet ex s j → (rIter ex s j).1 fact ≠ none → (needN ex (rIter ex s j).2 fact 4).length ≤ 4 := fun j _ hj _ => by
  rw [rIter_same hj hq]; exact h
theorem why_is {s : Nat} {fact : Int} {j0 : Nat} {out : List Int} {E : Int} {ys0 out0 : List Int} (hq : Quiet ex s j0) (h : WhyP ex s fact 4 out E) (h1 : ((rIter ex s j0).1 fact).isSome = true) (h2 : ys0.Perm (needN ex (rIter ex s j0).2 fact 4)) (h3 : ys0.Pairwise (lexR (keyW (rIter ex s j0).1))) (h4 : ys0.filterMap (rsI (rIter ex s j0).2) = out0) : out = out0 ∧ E = 0 := by
  obtain ⟨j, _, hj, h⟩ := h
  rw [rIter_same hj hq] at h
  rcases h with ⟨h, _⟩ | ⟨_, rfl, ys, hp, hw, rfl⟩
  · rw [h] at h1; cases h1
  · rw [← h4, lex_same (hp.trans h2.symm) hw h3]
    exact ⟨rfl, rfl⟩
theorem why_no {s : Nat} {fact : Int} {j0 : Nat} {out : List Int} {E : Int} (hq : Quiet ex s j0) (h : WhyP ex s fact 4 out E) (h1 : (rIter ex s j0).1 fact = none) : out = [] ∧ E = 6 := by
  obtain ⟨j, _, hj, h⟩ := h
  rw [rIter_same hj hq] at h
  rcases h with ⟨_, h2, h3⟩ | ⟨h, _⟩
  · exact ⟨h2, h3⟩
  · exact absurd h1 h
theorem n34 : (needN ex (rIter ex 3 2).2 4 4).length ≤ 4 := by decide +kernel
theorem n74 : (needN ex (rIter ex 7 2).2 4 4).length ≤ 4 := by decide +kernel
theorem n6m : (needN ex (rIter ex 6 2).2 (-1) 4).length ≤ 4 := by decide +kernel
theorem n14 : (needN ex (rIter ex 1 0).2 4 4).length ≤ 4 := by decide +kernel
theorem w34 {out : List Int} {E : Int} (h : WhyP ex 3 4 4 out E) : out = [0, 2] ∧ E = 0 := why_is (ys0 := [0, 1, 3, 4]) q3 h (by decide +kernel) (by decide +kernel) (by decide +kernel) (by decide +kernel)
theorem w74 {out : List Int} {E : Int} (h : WhyP ex 7 4 4 out E) : out = [0, 2] ∧ E = 0 := why_is (ys0 := [0, 1, 3, 4]) q7 h (by decide +kernel) (by decide +kernel) (by decide +kernel) (by decide +kernel)
theorem w6m {out : List Int} {E : Int} (h : WhyP ex 6 (-1) 4 out E) : out = [3] ∧ E = 0 := why_is (ys0 := [1, 2, -1]) q6 h (by decide +kernel) (by decide +kernel) (by decide +kernel) (by decide +kernel)
theorem w14 {out : List Int} {E : Int} (h : WhyP ex 1 4 4 out E) : out = [] ∧ E = 6 := why_no q1 h (by decide +kernel)
theorem ex_follows : folsL ex 3 = [true, true, false, true, true] ∧ folsB ex 3 = false := by decide +kernel
def exL : LS := lfold ex ((ords 3 4).map (·.1))
theorem ex_labels : exL.lab 0 = [1] ∧ exL.lab 1 = [2] ∧ exL.lab 2 = [4] ∧ exL.lab 3 = [4, 3] ∧ exL.lab 4 = [4, 3] ∧ exL.bad = [6] := by decide +kernel
theorem ex_check : checkE ex true 3 4 [0, 2] = 0 ∧ checkE ex true 3 4 [] = 22 := by decide +kernel
theorem ex_is : isB ex 3 = true ∧ isB ex 7 = true ∧ isB ex 6 = true ∧ isB ex 1 = true := by decide +kernel
theorem ex_fits : fitsE ex true 4 = 0 ∧ fitsE ex true (-1) = 0 := by decide +kernel
theorem ex_rests : restsB [4, 3] 2 = false ∧ restsB [4] 2 = true := by decide +kernel
end Go.Label
/- label: the reference's SameLabels. -/
namespace Go.Label
open Go.RowKit Go.Own
/-- a list of lists lies in memory -/
structure LLs (w : World) (sa : Option Addr) (cap : Nat) (vs : List Value) (L : List (List Int)) : Prop where
  out : Sl w 1 (.slice sa L.length cap) L.length vs
  row : ∀ i v, i < L.length → vs[i]? = some v → Sl w 1 v (L.getD i []).length ((L.getD i []).map (.int .i64))
theorem LLs.below {w w' : World} {sa : Option Addr} {cap : Nat} {vs : List Value} {L : List (List Int)} (h : LLs w sa cap vs L) (hb : Below w.heap.size w w') : LLs w' sa cap vs L :=
  ⟨h.out.below hb, fun i v hi hv => (h.row i v hi hv).below hb⟩
theorem LLs.val {w : World} {sa : Option Addr} {cap : Nat} {vs : List Value} {L : List (List Int)} (h : LLs w sa cap vs L) {i : Nat} (hi : i < L.length) : ∃ v, vs[i]? = some v := by
  have h1 := h.out.1
  exact ⟨vs[i], List.getElem?_eq_getElem (by omega)⟩
end Go.Label
namespace Go.Proofs.Ytcbmifaobdamhaa
open Go.RowKit Go.Own Go.Theory Go.BigFrame Go.Ib Go.Label Go.Shelf
attribute [local irreducible] SqC.SqW
set_option maxRecDepth 100000 in
set_option maxHeartbeats 4000000 in
theorem sameL_any (La Lb : List (List Int)) (sa sb : Option Addr) (ca cb : Nat) (va vb : List Value) (w : World) (ha : LLs w sa ca va La) (hb : LLs w sb cb vb Lb) (hm : ∀ i, i < La.length → (La.getD i []).length ≤ 1000000) (hm2 : La.length ≤ 1000000) :
    Calls Try.prog 19 #[.slice sa La.length ca, .slice sb Lb.length cb] w fun e w' => e = .returned (.bool (La == Lb)) ∧ Below w.heap.size w w' := by
  have HA := Lib.hid ha; clear ha
  have HB := Lib.hid hb; clear hb
  have HM := Lib.hid hm; clear hm
  go_enter Try.func19, Try.ntmps19
  by_cases hl : La.length = Lb.length
  · have hl' : ((La.length : Int) != (Lb.length : Int)) = false := by simp [hl]
    go_wp2
    go_loopw [5] (fun c wr => ∃ k : Nat, k ≤ La.length ∧ c = .int .i64 k ∧ La.take k = Lb.take k ∧ Below w.heap.size w wr) (fun c _ => La.length - (vInt c).toNat)
    case atStart => exact ⟨0, by omega, rfl, rfl, Below.refl _ _⟩
    case round =>
      obtain ⟨k, hk, rfl, he, hbr⟩ := hrel
      have HE := Lib.hid he; clear he
      by_cases hkl : k < La.length
      · have hkl2 : k < Lb.length := by omega
        have h1' : (k : Int) < La.length := by omega
        have h2' : (k : Int) < Lb.length := by omega
        obtain ⟨x, hx⟩ := HA.out.val hkl
        obtain ⟨y, hy⟩ := HB.out.val hkl2
        have sx := (HA.out.row k x hkl hx).below hbr
        have sy := (HB.out.row k y hkl2 hy).below hbr
        obtain ⟨ba, oa, rfl, _, _, hCa, hal⟩ := sl_at HA.out.out (by omega)
        obtain ⟨bb, ob, rfl, _, _, hCb, hbl⟩ := sl_at HB.out.out (by omega)
        have cx : wr.cell? ⟨ba, oa + k, none⟩ = some x := (hCa.below hbr hal) k _ hx
        have cy : wr.cell? ⟨bb, ob + k, none⟩ = some y := (hCb.below hbr hbl) k _ hy
        obtain ⟨sx1, cx1, rfl, _, _⟩ := sl_slice sx
        obtain ⟨sy1, cy1, rfl, _, _⟩ := sl_slice sy
        have hml := HM.out k hkl
        obtain ⟨X, hX⟩ : ∃ X, X = La.getD k [] := ⟨_, rfl⟩
        obtain ⟨Y, hY⟩ : ∃ Y, Y = Lb.getD k [] := ⟨_, rfl⟩
        rw [← hX] at sx cx hml
        rw [← hY] at sy cy
        rw [getD_eq [] hkl] at hX
        rw [getD_eq [] hkl2] at hY
        obtain ⟨na, hna⟩ : ∃ na, na = La.length := ⟨_, rfl⟩
        obtain ⟨nb, hnb⟩ : ∃ nb, nb = Lb.length := ⟨_, rfl⟩
        have HX := Lib.hid hX; clear hX
        have HY := Lib.hid hY; clear hY hCa hCb hx hy
        have HBR := Lib.hid hbr; clear hbr
        clear hna hnb
        go_wp2
        have hext : (fun W : World => W.cell? ⟨ba, oa + k, none⟩ = some (.slice sx1 X.length cx1) ∧ W.cell? ⟨bb, ob + k, none⟩ = some (.slice sy1 Y.length cy1)) wr.drew := ⟨cx, cy⟩
        haveI : Nonempty (SqC.Come fun W : World => W.cell? ⟨ba, oa + k, none⟩ = some (.slice sx1 X.length cx1) ∧ W.cell? ⟨bb, ob + k, none⟩ = some (.slice sy1 Y.length cy1)) := ⟨⟨_, hext⟩⟩
        refine SqC.wp_region_sqc 10 [8] (fun W : World => W.cell? ⟨ba, oa + k, none⟩ = some (.slice sx1 X.length cx1) ∧ W.cell? ⟨bb, ob + k, none⟩ = some (.slice sy1 Y.length cy1)) (by kernel_rfl) (by kernel_rfl) (by kernel_rfl) hext ?_
        obtain ⟨wd, hwd⟩ : ∃ wd : World, wd = wr.drew := ⟨_, rfl⟩
        have hbd : Below w.heap.size w wd := by rw [hwd]; exact HBR.out.drew
        have hsx : Sl wd 1 (.slice sx1 X.length cx1) X.length (X.map (.int .i64)) := by rw [hwd]; exact sx.drew
        have hsy : Sl wd 1 (.slice sy1 Y.length cy1) Y.length (Y.map (.int .i64)) := by rw [hwd]; exact sy.drew
        rw [← hwd] at hext ⊢
        clear hwd cx cy sx sy
        iterate 3 (refine SqC.quiet rfl rfl ?_; go_big_quiet_step (fail); refine wpQuiet_nil ?_)
        refine SqC.value (.slice sx1 X.length cx1) rfl rfl (by intro W hW; have cx := hW.1; go_simp) ?_
        simp only [Act.put, List.setIfInBounds_toArray, List.set_cons_zero, List.set_cons_succ]
        iterate 3 (refine SqC.quiet rfl rfl ?_; go_big_quiet_step (fail); refine wpQuiet_nil ?_)
        refine SqC.value (.slice sy1 Y.length cy1) rfl rfl (by intro W hW; have cx := hW.2; go_simp) ?_
        simp only [Act.put, List.setIfInBounds_toArray, List.set_cons_zero, List.set_cons_succ]
        refine SqC.effect rfl rfl ?_
        refine yields_call rfl (by kernel_rfl) rfl rfl ((same_any X Y sx1 sy1 cx1 cy1 wd hsx hsy (.inl hml)).mono ?_)
        rintro e w5 ⟨rfl, b5⟩
        have hb5 : Below w.heap.size w w5 := hbd.trans (b5.mono hbd.size)
        refine ⟨_, rfl, fun _ => ⟨?_, ?_⟩, ?_⟩
        · exact ((b5.cell (p := ⟨ba, oa + k, none⟩) (Nat.lt_of_lt_of_le hal hbd.size)).trans hext.1)
        · exact ((b5.cell (p := ⟨bb, ob + k, none⟩) (Nat.lt_of_lt_of_le hbl hbd.size)).trans hext.2)
        simp only [Act.put, List.setIfInBounds_toArray, List.set_cons_zero, List.set_cons_succ]
        have HB5 := Lib.hid hb5; clear hb5 b5 hbd hext hsx hsy
        cases hxy : X == Y with
        | true =>
          have hxe : X = Y := by simpa using hxy
          have ht := take_succ_eq hkl hkl2 HE.out (by rw [← HX.out, ← HY.out, hxe])
          have HT := Lib.hid ht; clear ht hxe hxy
          refine SqC.quiet rfl rfl ?_; go_big_quiet_step (fail); refine wpQuiet_nil ?_
          refine SqC.nil ?_
          go_wp2
          go_roundw
          case rel => exact ⟨k + 1, by omega, by go_num, HT.out, HB5.out⟩
          case measure => simp [vInt]; omega
        | false =>
          have hne : (La == Lb) = false := by
            have h := ne_of_get hkl hkl2 (by rw [← HX.out, ← HY.out]; intro e; rw [e] at hxy; simp at hxy)
            simpa using h
          have HNE := Lib.hid hne; clear hne hxy
          refine SqC.quiet rfl rfl ?_; go_big_quiet_step (fail); refine wpQuiet_nil ?_
          refine SqC.nil ?_
          go_wp2
          go_ret
          exact ⟨by rw [HNE.out]; rfl, HB5.out⟩
      · have e : La = Lb := by have := HE.out; rwa [List.take_of_length_le (by omega), List.take_of_length_le (by omega)] at this
        have hq : (La == Lb) = true := by simpa using e
        have HQ := Lib.hid hq; clear e hq
        have h1' : (La.length : Int) ≤ k := by omega
        go_wp2
        go_ret
        exact ⟨by rw [HQ.out]; rfl, hbr⟩
  · have hl' : ((La.length : Int) != (Lb.length : Int)) = true := by simp; omega
    have hne : (La == Lb) = false := by
      have : La ≠ Lb := fun e => hl (by rw [e])
      simpa using this
    have HNE := Lib.hid hne; clear hne
    go_wp2
    go_ret
    exact ⟨by rw [HNE.out]; rfl, Below.refl _ _⟩
end Go.Proofs.Ytcbmifaobdamhaa
