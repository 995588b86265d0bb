/- theory: package conflict: sets in order. -/
import Derived.Test.YtnkglahiagigoaaK1
import Derived.Test.YtnkglahiagigoaaSf
import Derived.Test.YtnkglahiagigoaaShD
namespace Go.Theory
theorem scf_neg (x y : Nat) : scf x y < 0 ↔ (pop x < pop y ∨ (pop x = pop y ∧ x < y)) := by
  unfold scf cmpI
  split <;> split <;> try split
  all_goals omega
/-- a set of the first eight -/
abbrev S8 := Fin 256
def enc8 (x : S8) : Value := .int .i64 (x.1 : Nat)
def cfS (x y : S8) : Int := scf x.1 y.1
theorem ltOf_ltS (x y : S8) : Go.Proofs.ltOf cfS x y = ltS x.1 y.1 := by
  unfold Go.Proofs.ltOf ltS cfS
  rw [decide_eq_decide]
  exact scf_neg _ _
theorem swoS : Go.Sort.SWO (Go.Proofs.ltOf cfS) where
  irrefl x := by rw [ltOf_ltS]; unfold ltS; exact decide_eq_false (by omega)
  trans x y z h1 h2 := by
    rw [ltOf_ltS] at *
    unfold ltS at *
    have a := of_decide_eq_true h1
    have b := of_decide_eq_true h2
    exact decide_eq_true (by omega)
  ntrans x y z h1 h2 := by
    rw [ltOf_ltS] at *
    unfold ltS at *
    have a := of_decide_eq_false h1
    have b := of_decide_eq_false h2
    exact decide_eq_false (by omega)
end Go.Theory
namespace Go.Proofs.Ytnkglahiagigoaa
open Go.RowKit Go.Own Go.Theory Go.BigFrame Go.Shelf Go.Ib
set_option maxRecDepth 100000 in
set_option maxHeartbeats 1600000 in
theorem sorted_any (xs : List S8) (base : Nat) (v : Value) (w : World) (h : w.ownsRow base 23 1 v xs.length (xs.map enc8)) (hsz : xs.length ≤ 1000000) :
    Calls Try.prog 74 #[v, .func (.func 72) #[] #[], .func (.func 75) #[] #[]] w fun e w' => ∃ ys : List S8, e = .returned v ∧ ys.Perm xs ∧ ys.Pairwise (fun x y => ltS y.1 x.1 = false) ∧ w'.ownsRow base 23 1 v xs.length (ys.map enc8) ∧ (∀ B, B ≤ w.heap.size → B ≤ base → Below B w w') := by
  obtain ⟨W1, hW1⟩ : ∃ W1, (w.alloc (.cells #[.func (.func 72) #[] #[]] 62)).alloc (.cells #[.func (.func 75) #[] #[]] 62) = W1 := ⟨_, rfl⟩
  have b1 : Below w.heap.size w W1 := by rw [← hW1]; exact (alloc_below w _).trans ((alloc_below _ _).mono (by rw [alloc_size]; omega))
  have c1 : Blk W1 w.heap.size [.func (.func 72) #[] #[]] 62 := by
    rw [← hW1]
    exact (Blk.new w #[.func (.func 72) #[] #[]] 62).alloc _
  have c2 : Blk W1 (w.heap.size + 1) [.func (.func 75) #[] #[]] 62 := by
    rw [← hW1]
    exact Blk.new_at (w.alloc _) #[.func (.func 75) #[] #[]] 62 (alloc_size w _).symm
  have hz1 : W1.heap.size = w.heap.size + 2 := by rw [← hW1, alloc_size, alloc_size]
  have h1 : W1.ownsRow base 23 1 v xs.length (xs.map enc8) := by rw [← hW1]; exact (h.alloc _).alloc _
  have hgv : ∀ g cap, v = .slice (some ⟨g, 0, none⟩) xs.length cap → g < w.heap.size := fun g cap e => by
    rcases h.2 with ⟨e2, _⟩ | ⟨g', cap', cur, e2, hg, hgg, _⟩
    · rw [e2] at e; cases e
    · rw [e2] at e
      injection e with e _ _
      injection e with e
      injection e with e _ _
      subst e
      exact (Array.getElem?_eq_some_iff.1 hgg).1
  have hcon := sortf_own Try.sf94 enc8 (fun _ => rfl) cfS swoS 95 #[.pointer (some ⟨w.heap.size, 0, none⟩), .pointer (some ⟨w.heap.size + 1, 0, none⟩)] h1 hsz (enters_of Try.func95 (by kernel_rfl) rfl) (fun g cap e hg W hch x y => by
    have hg2 := hgv g cap e
    have k1 := (c1.chg hch (by simp; omega)).cell (i := 0) rfl
    have k2 := (c2.chg hch (by simp; omega)).cell (i := 0) rfl
    refine (scmp_any x.1 y.1 _ _ x.2 y.2 W k1 k2).mono ?_
    rintro e w' ⟨rfl, o, rfl⟩
    exact ⟨rfl, 1, #[o], Go.Sort.alloc_eq_grow _ _⟩)
  change Calls Try.prog 94 _ _ _ at hcon
  clear h h1 c1 c2
  have HZ := Lib.hid hz1; clear hz1
  go_enter Try.func74, Try.ntmps74
  go_wp2_with (fail)
  clear hW1
  refine hcon.mono ?_
  rintro e w' ⟨rfl, ys, p1, p2, p3, p4⟩
  go_wp2
  go_ret
  refine ⟨ys, rfl, p1, p2.imp fun {a b} hab => by rw [← ltOf_ltS]; exact hab, p3, fun B hB1 hB2 => (b1.mono hB1).trans (p4 B (by rw [HZ.out]; omega) hB2)⟩
set_option maxRecDepth 100000 in
theorem ordered_any (xs : List S8) (base : Nat) (v : Value) (w : World) (h : w.ownsRow base 23 1 v xs.length (xs.map enc8)) (hsz : xs.length ≤ 1000000) :
    Calls Try.prog 55 #[v] w fun e w' => ∃ ys : List S8, e = .returned v ∧ ys.Perm xs ∧ ys.Pairwise (fun x y => ltS y.1 x.1 = false) ∧ w'.ownsRow base 23 1 v xs.length (ys.map enc8) ∧ (∀ B, B ≤ w.heap.size → B ≤ base → Below B w w') := by
  go_enter Try.func55, Try.ntmps55
  go_wp2_with (fail)
  refine (sorted_any xs base v w h hsz).mono ?_
  rintro e w' ⟨ys, rfl, p⟩
  go_wp2
  go_ret
  exact ⟨ys, rfl, p⟩
end Go.Proofs.Ytnkglahiagigoaa
