/- label: The insertion sort with a comparison, at a row of words in ascending order: a stable sort by a key. -/
import Derived.Test.YtcbmifaobdamhaaA22
import Derived.Test.YtcbmifaobdamhaaSo
namespace Go.Own
open Go.RowKit
/-- by key, then by value -/
def lexR (key : Int → Int) (x y : Int) : Prop := key x < key y ∨ (key x = key y ∧ x < y)
theorem lexR.trans {key : Int → Int} {x y z : Int} (h : lexR key x y) (k : lexR key y z) : lexR key x z := by
  unfold lexR at *; omega
theorem lexR.total {key : Int → Int} {x y : Int} (hxy : y < x) (h : ¬ key x < key y) : lexR key y x := by
  unfold lexR; omega
theorem set_swap {P T : List Int} {x y : Int} : ((P ++ y :: x :: T).set (P.length + 1) y).set P.length x = P ++ x :: y :: T := by
  rw [List.set_append_right _ _ (by omega), List.set_append_right _ _ (by omega)]
  simp
/-- One step of the insertion. -/
theorem ins_done {key : Int → Int} {P Q : List Int} {x : Int} (h : (P ++ Q).Pairwise (lexR key)) (hq : ∀ q ∈ Q, lexR key x q) (hp : ∀ p ∈ P, lexR key p x) : (P ++ x :: Q).Pairwise (lexR key) := by
  rw [List.pairwise_append] at h ⊢
  obtain ⟨h1, h2, h3⟩ := h
  refine ⟨h1, List.pairwise_cons.2 ⟨hq, h2⟩, fun p hp' q hq' => ?_⟩
  rcases List.mem_cons.1 hq' with rfl | hq'
  · exact hp p hp'
  · exact h3 p hp' q hq'
theorem ins_last {key : Int → Int} {P0 Q : List Int} {y x : Int} (h : (P0 ++ [y] ++ Q).Pairwise (lexR key)) (hy : lexR key y x) : ∀ p ∈ P0 ++ [y], lexR key p x := by
  intro p hp
  rw [List.pairwise_append] at h
  have h1 := h.1
  rw [List.pairwise_append] at h1
  rcases List.mem_append.1 hp with hp | hp
  · exact (h1.2.2 p hp y (by simp)).trans hy
  · simp at hp; subst hp; exact hy
end Go.Own
namespace Go.Proofs.Ytcbmifaobdamhaa
open Go.RowKit Go.Own Go.Theory Go.BigFrame Go.Shelf
attribute [local irreducible] SqC.SqW
set_option maxRecDepth 100000 in
set_option maxHeartbeats 1600000 in
theorem ins_any (key : Int → Int) (f : Nat) (lb : Array Value) (xs : List Int) (sp : List Value) (g cap : Nat) (E : World → Prop) (hE : ∀ W W', E W → Chg [g] W W' → E W') (hx : xs.Pairwise (· < ·)) (hlen : xs.length ≤ 1000000) (hcap : xs.length ≤ cap)
    (hf : (Try.prog.funcs[f]?).map (fun fn => (fn.name == "runtime.NumGoroutine", fn.body.isNone)) = some (false, false))
    (hcmp : ∀ W x y, E W → x ∈ xs → y ∈ xs → Calls Try.prog f (#[.int .i64 x, .int .i64 y] ++ lb) W fun e w' => ∃ c, e = .returned (.int .i64 c) ∧ (c < 0 ↔ key x < key y) ∧ Below W.heap.size W w')
    (w : World) (hw : E w) (hB : Blk w g (xs.map (.int .i64) ++ sp) 3) :
    Calls Try.prog 86 #[.slice (some ⟨g, 0, none⟩) xs.length cap, .int .i64 0, .int .i64 xs.length, .func (.func f) #[] lb] w fun e w' => e = .returned (.tuple #[]) ∧ ∃ ys : List Int, ys.Perm xs ∧ ys.Pairwise (lexR key) ∧ Blk w' g (ys.map (.int .i64) ++ sp) 3 ∧ Chg [g] w w' := by
  go_enter Try.func86, Try.ntmps86
  go_wp2
  go_loopw [8] (fun c wr => ∃ (k : Nat) (P : List Int), 1 ≤ k ∧ k ≤ xs.length + 1 ∧ c = .int .i64 k ∧ P.Perm (xs.take k) ∧ P.Pairwise (lexR key) ∧ Blk wr g ((P ++ xs.drop k).map (.int .i64) ++ sp) 3 ∧ Chg [g] w wr) (fun c _ => xs.length + 1 - (vInt c).toNat)
  case atStart =>
    refine ⟨1, xs.take 1, by omega, by omega, rfl, List.Perm.refl _, ?_, by rw [List.take_append_drop]; exact hB, Chg.refl _ _⟩
    cases xs with
    | nil => exact List.Pairwise.nil
    | cons x r => simp
  case round =>
    obtain ⟨k, P, h1, hk, rfl, hP, hPw, hBr, hch⟩ := hrel
    by_cases hkn : k < xs.length
    · obtain ⟨x, hxe⟩ : ∃ x, x = xs[k] := ⟨_, rfl⟩
      have hPl : P.length = k := by rw [hP.length_eq, List.length_take]; omega
      have hdrop : xs.drop k = x :: xs.drop (k + 1) := by rw [hxe]; exact List.drop_eq_getElem_cons hkn
      have hlt : ∀ p ∈ xs.take k, p < x := fun p hp => by
        obtain ⟨i, hi, rfl⟩ := List.getElem_of_mem hp
        rw [List.length_take] at hi
        rw [List.getElem_take, hxe]
        exact List.pairwise_iff_getElem.1 hx i k (by omega) hkn (by omega)
      have hxm : x ∈ xs := by rw [hxe]; exact List.getElem_mem _
      have htake : xs.take (k + 1) = xs.take k ++ [x] := by rw [hxe]; exact List.take_succ_eq_append_getElem hkn
      rw [hdrop] at hBr
      clear hdrop hxe
      have hki : (k : Int) < xs.length := by omega
      obtain ⟨wo, hwo⟩ : ∃ wo : World, wo = wr := ⟨_, rfl⟩
      subst hwo
      go_wp2
      go_loopw [9] (fun c wr => ∃ (P' Q : List Int), c = .int .i64 P'.length ∧ (P' ++ Q).Perm (xs.take k) ∧ (P' ++ Q).Pairwise (lexR key) ∧ (∀ q ∈ Q, lexR key x q) ∧ Blk wr g ((P' ++ x :: (Q ++ xs.drop (k + 1))).map (.int .i64) ++ sp) 3 ∧ Chg [g] w wr) (fun c _ => (vInt c).toNat)
      case atStart => exact ⟨P, [], by rw [hPl], by rw [List.append_nil]; exact hP, by rw [List.append_nil]; exact hPw, fun q hq => absurd hq (by simp), by rw [List.nil_append]; exact hBr, hch⟩
      case round =>
        obtain ⟨P', Q, rfl, g1, g2, g3, g4, g5⟩ := hrel
        have hPl' : P'.length ≤ k := by
          have := g1.length_eq
          rw [List.length_append, List.length_take] at this
          omega
        clear hBr hch hP hPw hPl
        rcases List.eq_nil_or_concat P' with rfl | ⟨P0, y, rfl⟩
        · go_wp2
          go_quiet (fail)
          go_wp2
          go_roundw
          case rel =>
            refine ⟨k + 1, x :: Q, by omega, by omega, by go_num, ?_, ?_, ?_, g5.drewN _⟩
            · rw [htake]
              exact (List.Perm.cons x (by simpa using g1)).trans (List.perm_append_comm (l₁ := [x]))
            · exact List.pairwise_cons.2 ⟨g3, by simpa using g2⟩
            · simpa using g4.drewN _
          case measure => simp [vInt]; omega
        · rw [List.concat_eq_append] at *
          have hy : y ∈ xs.take k := g1.subset (by simp)
          have hyx := hlt y hy
          have hym : y ∈ xs := List.mem_of_mem_take hy
          obtain ⟨R, hR⟩ : ∃ R, R = Q ++ xs.drop (k + 1) := ⟨_, rfl⟩
          rw [List.append_assoc, List.singleton_append, ← hR] at g4
          rw [List.length_append, List.length_singleton] at hPl' ⊢
          obtain ⟨p, hp⟩ : ∃ p, P0.length = p := ⟨_, rfl⟩
          rw [hp] at hPl' ⊢
          have hj0 : (0 : Int) < ((p + 1 : Nat) : Int) := by omega
          have hjn : ((p + 1 : Nat) : Int) < xs.length := by omega
          have hpn : (p : Int) < xs.length := by omega
          have HP := Lib.hid hp; clear hp
          have gx : ((P0 ++ y :: x :: R).map (Value.int .i64) ++ sp)[p + 1]? = some (.int .i64 x) := by rw [← HP.out]; simp
          have gy : ((P0 ++ y :: x :: R).map (Value.int .i64) ++ sp)[p]? = some (.int .i64 y) := by rw [← HP.out]; simp
          have HRR := Lib.hid hR; clear hR
          obtain ⟨j, hj⟩ : ∃ j, j = p + 1 := ⟨_, rfl⟩
          rw [← hj] at hj0 hjn gx ⊢
          have hj0n : 0 < j := by omega
          have hjnn : j < xs.length := by omega
          have hpnn : p < xs.length := by omega
          rw [show p = j - 1 by omega] at gy
          have HJ := Lib.hid hj; clear hj
          have hEr := hE w wr hw g5
          have eX : E wr.drew ∧ Blk wr.drew g ((P0 ++ y :: x :: R).map (Value.int .i64) ++ sp) 3 := ⟨hE w wr.drew hw g5.drew, g4.drew⟩
          go_wp2
          obtain ⟨Ext, hExt⟩ : ∃ Ext : World → Prop, Ext = fun U => E U ∧ Blk U g ((P0 ++ y :: x :: R).map (Value.int .i64) ++ sp) 3 := ⟨_, rfl⟩
          have eX2 : Ext wr.drew := by rw [hExt]; exact eX
          have hU1 : ∀ U, Ext U → Blk U g ((P0 ++ y :: x :: R).map (Value.int .i64) ++ sp) 3 := fun U h => by rw [hExt] at h; exact h.2
          have hU2 : ∀ U, E U ∧ Blk U g ((P0 ++ y :: x :: R).map (Value.int .i64) ++ sp) 3 → Ext U := fun U h => by rw [hExt]; exact h
          clear hExt
          haveI : Nonempty (SqC.Come Ext) := ⟨⟨_, eX2⟩⟩
          refine SqC.wp_region_sqc 17 [14] Ext (by kernel_rfl) (by kernel_rfl) (by kernel_rfl) eX2 ?_
          iterate 2 (refine SqC.quiet rfl rfl ?_; go_big_quiet_step (fail); refine wpQuiet_nil ?_)
          refine SqC.value (.bool true) rfl rfl (by intro U hU; go_simp) ?_
          simp only [Act.put, List.setIfInBounds_toArray, List.set_cons_zero, List.set_cons_succ]
          iterate 5 (refine SqC.quiet rfl rfl ?_; go_big_quiet_step (fail); refine wpQuiet_nil ?_)
          refine SqC.value (.int .i64 x) rfl rfl (by intro U hU; have cx : U.cell? ⟨g, j, none⟩ = some (.int .i64 x) := (hU1 U hU).cell gx; go_simp) ?_
          simp only [Act.put, List.setIfInBounds_toArray, List.set_cons_zero, List.set_cons_succ]
          iterate 4 (refine SqC.quiet rfl rfl ?_; go_big_quiet_step (fail); refine wpQuiet_nil ?_)
          refine SqC.value (.int .i64 y) rfl rfl (by intro U hU; have cx : U.cell? ⟨g, j - 1, none⟩ = some (.int .i64 y) := (hU1 U hU).cell gy; go_simp) ?_
          simp only [Act.put, List.setIfInBounds_toArray, List.set_cons_zero, List.set_cons_succ]
          refine SqC.effect rfl rfl ?_
          refine yields_closure rfl hf rfl (args := #[.int .i64 x, .int .i64 y]) rfl ((hcmp wr.drew x y eX.1 hxm hym).mono ?_)
          rintro e w2 ⟨c, rfl, hc, b2⟩
          have hch2 : Chg [g] w w2 := g5.trans ((Chg.refl [g] wr).drew.trans (Chg.of_below b2))
          have X2 : Blk w2 g ((P0 ++ y :: x :: R).map (Value.int .i64) ++ sp) 3 := g4.drew.below b2 g4.lt
          refine ⟨_, rfl, fun _ => hU2 _ ⟨hE w w2 hw hch2, X2⟩, ?_⟩
          simp only [Act.put, List.setIfInBounds_toArray, List.set_cons_zero, List.set_cons_succ]
          iterate 2 (refine SqC.quiet rfl rfl ?_; go_big_quiet_step (fail); refine wpQuiet_nil ?_)
          refine SqC.nil ?_
          clear eX hEr g4 g5 b2
          by_cases hc0 : c < 0
          · have hkey := hc.1 hc0
            clear hc
            have cx : w2.cell? ⟨g, j, none⟩ = some (.int .i64 x) := X2.cell gx
            have cy : w2.cell? ⟨g, j - 1, none⟩ = some (.int .i64 y) := X2.cell gy
            have fx : w2.frozen? ⟨g, j, none⟩ = false := X2.frozen j
            have fy : w2.frozen? ⟨g, j - 1, none⟩ = false := X2.frozen (j - 1)
            go_wp2
            go_region
            have hB3 : Blk (((w2.setCell ⟨g, j, none⟩ (.int .i64 y)).setCell ⟨g, j - 1, none⟩ (.int .i64 x)).drew) g ((P0 ++ x :: y :: R).map (.int .i64) ++ sp) 3 := by
              have := (X2.set j (.int .i64 y)).set (j - 1) (.int .i64 x)
              have hj := HJ.out
              rw [show j - 1 = P0.length by have := HP.out; omega, show j = P0.length + 1 by have := HP.out; omega, List.set_append_left _ _ (by simp), List.set_append_left _ _ (by simp), ← List.map_set, ← List.map_set, set_swap] at this
              rw [show j - 1 = P0.length by have := HP.out; omega, show j = P0.length + 1 by have := HP.out; omega]
              exact this.drew
            have hch3 : Chg [g] w (((w2.setCell ⟨g, j, none⟩ (.int .i64 y)).setCell ⟨g, j - 1, none⟩ (.int .i64 x)).drew) := ((hch2.set _ (by simp)).set _ (by simp)).drew
            go_wp2
            go_roundw
            case rel =>
              refine ⟨P0, y :: Q, ?_, by simpa using g1, by simpa using g2, ?_, ?_, hch3⟩
              · congr 1; have := HJ.out; have := HP.out; omega
              · intro q hq
                rcases List.mem_cons.1 hq with rfl | hq
                · exact .inl hkey
                · exact g3 q hq
              · rw [HRR.out] at hB3; simpa using hB3
            case measure => simp [vInt]; omega
          · have hkey : ¬ key x < key y := fun h => hc0 (hc.2 h)
            have hc1 : 0 ≤ c := by omega
            clear hc hc0
            go_wp2
            go_roundw
            case rel =>
              refine ⟨k + 1, P0 ++ [y] ++ x :: Q, by omega, by omega, by go_num, ?_, ?_, ?_, hch2⟩
              · rw [htake]
                exact List.perm_middle.trans ((List.Perm.cons x g1).trans (List.perm_append_comm (l₁ := [x])))
              · exact ins_done g2 g3 (ins_last g2 (lexR.total hyx hkey))
              · rw [HRR.out] at X2
                simpa using X2
            case measure => simp [vInt]; omega
    · have e : xs.drop k = [] := List.drop_eq_nil_of_le (by omega)
      have e2 : xs.take k = xs := List.take_of_length_le (by omega)
      rw [e, List.append_nil] at hBr
      rw [e2] at hP
      go_wp2
      go_end0
      exact ⟨rfl, P, hP, hPw, hBr, hch⟩
set_option maxRecDepth 100000 in
theorem stable_any (key : Int → Int) (f : Nat) (lb : Array Value) (xs : List Int) (sp : List Value) (g cap : Nat) (E : World → Prop) (hE : ∀ W W', E W → Chg [g] W W' → E W') (hx : xs.Pairwise (· < ·)) (hlen : xs.length < 20) (hcap : xs.length ≤ cap)
    (hf : (Try.prog.funcs[f]?).map (fun fn => (fn.name == "runtime.NumGoroutine", fn.body.isNone)) = some (false, false))
    (hcmp : ∀ W x y, E W → x ∈ xs → y ∈ xs → Calls Try.prog f (#[.int .i64 x, .int .i64 y] ++ lb) W fun e w' => ∃ c, e = .returned (.int .i64 c) ∧ (c < 0 ↔ key x < key y) ∧ Below W.heap.size W w')
    (w : World) (hw : E w) (hB : Blk w g (xs.map (.int .i64) ++ sp) 3) :
    Calls Try.prog 56 #[.slice (some ⟨g, 0, none⟩) xs.length cap, .func (.func f) #[] lb] w fun e w' => e = .returned (.tuple #[]) ∧ ∃ ys : List Int, ys.Perm xs ∧ ys.Pairwise (lexR key) ∧ Blk w' g (ys.map (.int .i64) ++ sp) 3 ∧ Chg [g] w w' := by
  have hi := ins_any key f lb xs sp g cap E hE hx (by omega) hcap hf hcmp w hw hB
  have h20 : (xs.length : Int) < 20 := by omega
  clear hB hx hcmp
  go_enter Try.func56, Try.ntmps56
  go_wp2_with (go_at_call 72; go_enter Try.func72, Try.ntmps72)
  go_loopw [7, 8] (fun a b wr => a = .int .i64 0 ∧ b = .int .i64 20 ∧ wr = w) (fun _ _ _ => 0)
  case atStart => exact ⟨rfl, rfl, rfl⟩
  case round =>
    obtain ⟨rfl, rfl, rfl⟩ := hrel
    go_wp2_with (fail)
    refine hi.mono ?_
    clear hi
    rintro e w2 ⟨rfl, ys, h1, h2, h3, h4⟩
    go_wp2
    go_loopw [6] (fun a wq => a = .int .i64 20 ∧ wq = w2) (fun _ _ => 0)
    case atStart => exact ⟨rfl, rfl⟩
    case round =>
      obtain ⟨rfl, rfl⟩ := hrel
      go_wp2
      go_end0
      go_wp2
      go_end0
      exact ⟨rfl, ys, h1, h2, h3, h4⟩
end Go.Proofs.Ytcbmifaobdamhaa
