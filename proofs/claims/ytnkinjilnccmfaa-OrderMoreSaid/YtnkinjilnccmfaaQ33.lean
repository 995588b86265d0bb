/- order: the document's example, reckoned. -/
import Derived.Test.YtnkinjilnccmfaaQ32
import Derived.Test.YtnkinjilnccmfaaQ13
namespace Go.Order
open Go.RowKit Go.Own Go.Proofs.Ytnkinjilnccmfaa Go.Theory
def z0 : Num := ⟨false, [], none, 0⟩
def ex (w p : Int) : Spl := ⟨w, p, z0, z0, z0, z0⟩
def exL : List Spl := [ex 7 1, ex 7 4, ex 3 1, ex 6 2]
def s1 : List Int := [1, 2, 4, 3, 6, 7]
def s2 : List Int := [1, 2, 4, 3, 7]
def s3 : List Int := [1, 2, 3, 6, 7]
theorem ok1 : exL.all Spl.ok = true := by decide +kernel
theorem er1 : errV 7 exL s1 = 0 ∧ errV 7 exL s2 = 0 ∧ errV 7 exL s3 = 0 ∧ errV 5 exL s1 = 0 := by decide +kernel
theorem bb1 : bb exL s1 7 = (0, 2) := by decide +kernel
theorem bb2 : bb exL s2 7 = (1, 2) := by decide +kernel
theorem bb3 : bb exL s3 7 = (-1, -1) := by decide +kernel
theorem bb4 : bb exL s1 5 = (-1, -1) := by decide +kernel
theorem set3 : setsL exL s3 = [1, 2, 3] := by decide +kernel
theorem set4 : setsL exL s1 = [1, 2, 3, 4, 6, 7] := by decide +kernel
theorem tre1 : tre exL s1 65536 7 = [ex 7 1, ex 6 2] := by kernel_rfl
theorem tre2 : tre exL s2 65536 7 = [ex 7 4, ex 3 1] := by kernel_rfl
theorem cast_inj : ∀ {a b : List Nat}, (a.map fun j : Nat => (j : Int)) = b.map (fun j : Nat => (j : Int)) → a = b
  | [], [], _ => rfl
  | [], _ :: _, h => by cases h
  | _ :: _, [], h => by cases h
  | x :: a, y :: b, h => by
    rw [List.map_cons, List.map_cons] at h
    injection h with h1 h2
    have e : x = y := by omega
    rw [e, cast_inj h2]
theorem can3 : canL exL s3 = [1, 2, 3] := cast_inj (by rw [← sets_can (by decide +kernel), set3]; rfl)
theorem can4 : canL exL s1 = [1, 2, 3, 4, 6, 7] := cast_inj (by rw [← sets_can (by decide +kernel), set4]; rfl)
theorem fv1 : findV 7 exL s1 = ⟨[ex 7 1, ex 6 2], 2, [], 0⟩ := by
  unfold findV; rw [if_pos er1.1, show (7 : Int).toNat = 7 from rfl, bb1, if_pos (by decide), tre1]
theorem fv2 : findV 7 exL s2 = ⟨[ex 7 4, ex 3 1], 2, [], 0⟩ := by
  unfold findV; rw [if_pos er1.2.1, show (7 : Int).toNat = 7 from rfl, bb2, if_pos (by decide), tre2]
theorem fv3 : findV 7 exL s3 = ⟨[], 0, [1, 2, 3], 6⟩ := by
  unfold findV; rw [if_pos er1.2.2.1, show (7 : Int).toNat = 7 from rfl, bb3, if_neg (by decide), can3]
theorem fv4 : findV 5 exL s1 = ⟨[], 0, [1, 2, 3, 4, 6, 7], 6⟩ := by
  unfold findV; rw [if_pos er1.2.2.2, show (5 : Int).toNat = 5 from rfl, bb4, if_neg (by decide), can4]
theorem ck1 : chkV 7 exL s1 [ex 7 1, ex 6 2] = (2, 0) := by decide +kernel
theorem ck2 : (chkV 7 exL s1 exL).2 = 22 := by decide +kernel
theorem nn1 : noneV 5 exL [1] [1] = 0 := by decide +kernel
theorem eq1 : eqvL [ex 7 1, ex 6 2] [ex 7 1, ex 6 2] = true ∧ eqvL [ex 7 4, ex 3 1] [ex 7 4, ex 3 1] = true := by decide +kernel
end Go.Order
namespace Go.Proofs.Ytnkinjilnccmfaa
open Go.RowKit Go.Own Go.BigFrame Go.Big Go.Order
theorem z0_at (w : World) : z0.At w := ⟨fun h => absurd h (Nat.lt_irrefl 0), Nat.zero_le _⟩
theorem ex_at (w : World) (x p : Int) : (ex x p).At w := ⟨z0_at w, z0_at w, z0_at w, z0_at w⟩
theorem lst_blk {w : World} {g n : Nat} {l : List Spl} {t : TypeId} (hB : Blk w g (flat l) t) (hn : l.length = n) (hm : n ≤ maxLen) (ha : ∀ x ∈ l, x.At w) : Lst w (.slice (some ⟨g, 0, none⟩) n n) l :=
  ⟨⟨flat_len l, .inr ⟨g, 0, n, by rw [hn], by omega, hm, hB.cells0, hB.lt⟩⟩, ha⟩
theorem sz_ints (w : World) (l : List Int) (n : Nat) (hn : l.length = n) (hm : n ≤ maxLen) (t : TypeId) : Sz (w.alloc (.cells (intsI l).toArray t)) (.slice (some ⟨w.heap.size, 0, none⟩) n n) n (intsI l) := fun _ => by
  have h := sl_new w (intsI l).toArray t n (by simp [intsI_len, hn]) hm
  simpa using h
set_option maxRecDepth 100000 in
theorem example_any (w : World) : Calls Try.prog 31 #[] w fun e w' => e = .returned (.slice (some ⟨w.heap.size, 0, none⟩) 4 4) ∧ Lst w' (.slice (some ⟨w.heap.size, 0, none⟩) 4 4) exL ∧ Blk w' w.heap.size (flat exL) 58 ∧ Below w.heap.size w w' := by
  go_enter Try.func31, Try.ntmps31
  go_wp2
  go_ret
  have hB : Blk (w.alloc (.cells (flat exL).toArray 58)) w.heap.size (flat exL) 58 := Blk.new w (flat exL).toArray 58
  exact ⟨rfl, lst_blk hB rfl (by decide) (fun x hx => by
    unfold exL at hx
    simp only [List.mem_cons, List.not_mem_nil, or_false] at hx
    rcases hx with h | h | h | h <;> (subst h; exact ex_at _ _ _)), hB, alloc_below _ _⟩
/-- Find at the example -/
theorem find_ex (whole : Int) (st : List Int) (n : Nat) (hn : st.length = n) (hm : n ≤ maxLen) (W : World) (g : Nat) (hl : Lst W (.slice (some ⟨g, 0, none⟩) 4 4) exL) {v : FV} (hv : findV whole exL st = v) :
    Calls Try.prog 12 #[.int .i64 whole, .slice (some ⟨g, 0, none⟩) 4 4, .slice (some ⟨W.heap.size, 0, none⟩) n n] (W.alloc (.cells (intsI st).toArray 22)) fun e w' =>
      ∃ sa ca ss cs, e = .returned (.tuple #[.slice sa v.l.length ca, .int .i64 v.n, .agg #[.slice ss v.s.length cs], .int .i64 v.e]) ∧ Lst w' (.slice sa v.l.length ca) v.l ∧ Sz w' (.slice ss v.s.length cs) v.s.length (nts v.s) ∧ Below W.heap.size W w' := by
  subst hv
  subst hn
  have h := find_any whole exL st (some ⟨g, 0, none⟩) (some ⟨W.heap.size, 0, none⟩) 4 st.length (W.alloc (.cells (intsI st).toArray 22)) (hl.below (alloc_below _ _)) (sz_ints W st st.length rfl hm _)
  refine Calls.mono h ?_
  rintro e w' ⟨sa, ca, ss, cs, h1, h2, h3, h4⟩
  exact ⟨sa, ca, ss, cs, h1, h2, h3, (alloc_below W _).trans (h4.mono (alloc_below W _).size)⟩
theorem check_ex (whole : Int) (st : List Int) (n : Nat) (hn : st.length = n) (hn6 : n < 1000000) (W : World) (g : Nat) (hl : Lst W (.slice (some ⟨g, 0, none⟩) 4 4) exL) (l : List Spl) (sa : Option Addr) (ca k : Nat) (hk : l.length = k) (hk6 : k < 1000000) (hL : Lst W (.slice sa k ca) l) {a b : Int} (hv : chkV whole exL st l = (a, b)) :
    Calls Try.prog 17 #[.int .i64 whole, .slice (some ⟨g, 0, none⟩) 4 4, .slice (some ⟨W.heap.size, 0, none⟩) n n, .slice sa k ca] (W.alloc (.cells (intsI st).toArray 22)) fun e w' => e = .returned (.tuple #[.int .i64 a, .int .i64 b]) ∧ Below W.heap.size W w' := by
  subst hn
  subst hk
  have h := check_any whole exL l st (some ⟨g, 0, none⟩) (some ⟨W.heap.size, 0, none⟩) sa 4 st.length ca (W.alloc (.cells (intsI st).toArray 22)) (hl.below (alloc_below _ _)) (sz_ints W st st.length rfl (by unfold maxLen; omega) _) (hL.below (alloc_below _ _)) (by decide) hn6 hk6
  rw [hv] at h
  exact Calls.mono h fun e w' ⟨h1, h2⟩ => ⟨h1, (alloc_below W _).trans (h2.mono (alloc_below W _).size)⟩
end Go.Proofs.Ytnkinjilnccmfaa
