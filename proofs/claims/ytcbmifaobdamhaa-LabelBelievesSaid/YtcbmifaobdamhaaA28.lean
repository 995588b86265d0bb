/- label: the examples of the law. -/
import Derived.Test.YtcbmifaobdamhaaA27
namespace Go.Proofs.Ytcbmifaobdamhaa
open Go.RowKit Go.Own Go.Theory Go.BigFrame Go.Ib Go.Label Go.Shelf
set_option maxRecDepth 100000 in
theorem example_any (w : World) : Calls Try.prog 44 #[] w fun e w' => ∃ sa sr ca cr bs, e = .returned (lgV ex sa sr ca cr) ∧ LgAt w' ex sa sr ca cr bs ∧ Below w.heap.size w w' := by
  go_enter Try.func44, Try.ntmps44
  go_wp2
  obtain ⟨N, hN⟩ : ∃ N, N = w.heap.size := ⟨_, rfl⟩
  rw [← hN]
  obtain ⟨U0, h0⟩ : ∃ U, U = w.alloc (.cells #[.int .i64 5, .slice (some ⟨N + 1, 0, none⟩) 3 3, .slice (some ⟨N + 1 + 1 + 1 + 1 + 1 + 1, 0, none⟩) 4 4] 25) := ⟨_, rfl⟩
  obtain ⟨U1, h1⟩ : ∃ U, U = U0.alloc (.cells #[.int .i64 0, .int .i64 1, .int .i64 2] 3) := ⟨_, rfl⟩
  obtain ⟨U2, h2⟩ : ∃ U, U = U1.alloc (.cells #[.int .i64 0, .int .i64 1] 3) := ⟨_, rfl⟩
  obtain ⟨U3, h3⟩ : ∃ U, U = U2.alloc (.cells #[.int .i64 2] 3) := ⟨_, rfl⟩
  obtain ⟨U4, h4⟩ : ∃ U, U = U3.alloc (.cells #[.int .i64 3] 3) := ⟨_, rfl⟩
  obtain ⟨U5, h5⟩ : ∃ U, U = U4.alloc (.cells #[.int .i64 1, .int .i64 2] 3) := ⟨_, rfl⟩
  obtain ⟨U6, h6⟩ : ∃ U, U = U5.alloc (.cells #[.int .i64 3, .slice (some ⟨N + 1 + 1, 0, none⟩) 2 2, .int .i64 3, .slice (some ⟨N + 1 + 1 + 1, 0, none⟩) 1 1, .int .i64 4, .slice (some ⟨N + 1 + 1 + 1 + 1, 0, none⟩) 1 1, .int .i64 (-1), .slice (some ⟨N + 1 + 1 + 1 + 1 + 1, 0, none⟩) 2 2] 61) := ⟨_, rfl⟩
  rw [← h0, ← h1, ← h2, ← h3, ← h4, ← h5, ← h6]
  have z0 : U0.heap.size = N + 1 := by rw [h0, hN]; simp
  have z1 : U1.heap.size = N + 1 + 1 := by rw [h1]; simp [z0]
  have z2 : U2.heap.size = N + 1 + 1 + 1 := by rw [h2]; simp [z1]
  have z3 : U3.heap.size = N + 1 + 1 + 1 + 1 := by rw [h3]; simp [z2]
  have z4 : U4.heap.size = N + 1 + 1 + 1 + 1 + 1 := by rw [h4]; simp [z3]
  have z5 : U5.heap.size = N + 1 + 1 + 1 + 1 + 1 + 1 := by rw [h5]; simp [z4]
  have b1 : Below U0.heap.size U0 U1 := by rw [h1]; exact alloc_below _ _
  have b2 : Below U1.heap.size U1 U2 := by rw [h2]; exact alloc_below _ _
  have b3 : Below U2.heap.size U2 U3 := by rw [h3]; exact alloc_below _ _
  have b4 : Below U3.heap.size U3 U4 := by rw [h4]; exact alloc_below _ _
  have b5 : Below U4.heap.size U4 U5 := by rw [h5]; exact alloc_below _ _
  have b6 : Below U5.heap.size U5 U6 := by rw [h6]; exact alloc_below _ _
  have c5 : Below U4.heap.size U4 U6 := b5.trans (b6.mono (by omega))
  have c4 : Below U3.heap.size U3 U6 := b4.trans (c5.mono (by omega))
  have c3 : Below U2.heap.size U2 U6 := b3.trans (c4.mono (by omega))
  have c2 : Below U1.heap.size U1 U6 := b2.trans (c3.mono (by omega))
  have c1 : Below U0.heap.size U0 U6 := b1.trans (c2.mono (by omega))
  have c0 : Below w.heap.size w U6 := by
    have : Below w.heap.size w U0 := by rw [h0]; exact alloc_below _ _
    exact this.trans (c1.mono (by rw [z0, ← hN]; omega))
  have k0 : Blk U6 N [.int .i64 5, .slice (some ⟨N + 1, 0, none⟩) 3 3, .slice (some ⟨N + 1 + 1 + 1 + 1 + 1 + 1, 0, none⟩) 4 4] 25 := by
    have : Blk U0 N [.int .i64 5, .slice (some ⟨N + 1, 0, none⟩) 3 3, .slice (some ⟨N + 1 + 1 + 1 + 1 + 1 + 1, 0, none⟩) 4 4] 25 := by rw [h0]; exact Blk.new_at _ _ _ hN
    exact this.below c1 this.lt
  have s1 : Sl U6 1 (.slice (some ⟨N + 1, 0, none⟩) 3 3) 3 (([0, 1, 2] : List Int).map (.int .i64)) := by
    have : Sl U1 1 (.slice (some ⟨N + 1, 0, none⟩) 3 3) 3 (([0, 1, 2] : List Int).map (.int .i64)) := by rw [h1]; exact sl_new_at U0 _ _ 3 _ z0.symm rfl (by decide)
    exact this.below c2
  have s2 : Sl U6 1 (.slice (some ⟨N + 1 + 1, 0, none⟩) 2 2) 2 (([0, 1] : List Int).map (.int .i64)) := by
    have : Sl U2 1 (.slice (some ⟨N + 1 + 1, 0, none⟩) 2 2) 2 (([0, 1] : List Int).map (.int .i64)) := by rw [h2]; exact sl_new_at U1 _ _ 2 _ z1.symm rfl (by decide)
    exact this.below c3
  have s3 : Sl U6 1 (.slice (some ⟨N + 1 + 1 + 1, 0, none⟩) 1 1) 1 (([2] : List Int).map (.int .i64)) := by
    have : Sl U3 1 (.slice (some ⟨N + 1 + 1 + 1, 0, none⟩) 1 1) 1 (([2] : List Int).map (.int .i64)) := by rw [h3]; exact sl_new_at U2 _ _ 1 _ z2.symm rfl (by decide)
    exact this.below c4
  have s4 : Sl U6 1 (.slice (some ⟨N + 1 + 1 + 1 + 1, 0, none⟩) 1 1) 1 (([3] : List Int).map (.int .i64)) := by
    have : Sl U4 1 (.slice (some ⟨N + 1 + 1 + 1 + 1, 0, none⟩) 1 1) 1 (([3] : List Int).map (.int .i64)) := by rw [h4]; exact sl_new_at U3 _ _ 1 _ z3.symm rfl (by decide)
    exact this.below c5
  have s5 : Sl U6 1 (.slice (some ⟨N + 1 + 1 + 1 + 1 + 1, 0, none⟩) 2 2) 2 (([1, 2] : List Int).map (.int .i64)) := by
    have : Sl U5 1 (.slice (some ⟨N + 1 + 1 + 1 + 1 + 1, 0, none⟩) 2 2) 2 (([1, 2] : List Int).map (.int .i64)) := by rw [h5]; exact sl_new_at U4 _ _ 2 _ z4.symm rfl (by decide)
    exact this.below b6
  have k6 : Blk U6 (N + 1 + 1 + 1 + 1 + 1 + 1) (cells2 ex.rules [.slice (some ⟨N + 1 + 1, 0, none⟩) 2 2, .slice (some ⟨N + 1 + 1 + 1, 0, none⟩) 1 1, .slice (some ⟨N + 1 + 1 + 1 + 1, 0, none⟩) 1 1, .slice (some ⟨N + 1 + 1 + 1 + 1 + 1, 0, none⟩) 2 2]) 61 := by
    rw [h6]; exact Blk.new_at _ _ _ z5.symm
  clear h0 h1 h2 h3 h4 h5 h6
  refine bodyPost_ret (results_blk rfl k0 rfl Try.underlying25 rfl (by kernel_rfl)) rfl ?_
  refine ⟨some ⟨N + 1, 0, none⟩, some ⟨N + 1 + 1 + 1 + 1 + 1 + 1, 0, none⟩, 3, 4, _, rfl, ⟨Sz.of s1, fun _ => ⟨rfl, .inr ⟨_, 0, _, rfl, by decide, by decide, k6.cells0, k6.lt⟩⟩, rfl, fun i hi hi2 => ?_⟩, by rw [hN]; exact c0⟩
  match i, hi with
  | 0, _ => exact ⟨_, _, rfl, Sz.of s2⟩
  | 1, _ => exact ⟨_, _, rfl, Sz.of s3⟩
  | 2, _ => exact ⟨_, _, rfl, Sz.of s4⟩
  | 3, _ => exact ⟨_, _, rfl, Sz.of s5⟩
theorem ex_rg : LgRg ex := ⟨by unfold rg ex; decide, by unfold rg ex; decide, by unfold rg ex; decide, by unfold rg ex; decide⟩
theorem labels4 (sa sr : Option Addr) (ca cr : Nat) (bs : List Value) (w : World) (h : LgAt w ex sa sr ca cr bs) :
    Calls Try.prog 17 #[lgV ex sa sr ca cr] w fun e w' => ∃ sl cl vs sb cb, e = .returned (.tuple #[.slice sl 5 cl, .slice sb 1 cb, .int .i64 0]) ∧ LLs w' sl cl vs [[1], [2], [4], [4, 3], [4, 3]] ∧ Sl w' 1 (.slice sb 1 cb) 1 (([6] : List Int).map (.int .i64)) ∧ Below w.heap.size w w' := by
  refine (plabels_any ex 5 sa sr ca cr bs ex_rg w h ex_ok rfl (by decide)).mono ?_
  rintro e w' ⟨P, vs, vb, rfl, hP, hl, hb, hbe⟩
  obtain ⟨l0, l1, l2, l3, l4, lb⟩ := ex_labels
  have hl' : ∀ f, f < 5 → Sl w' 1 (vs f) (exL.lab f).length (ints (exL.lab f)) := hl
  have hb' : Sl w' 1 vb exL.bad.length (ints exL.bad) := hb
  rw [lb] at hb'
  obtain ⟨sb, cb, rfl, _⟩ := sl_slice hb'
  refine ⟨some ⟨P, 0, none⟩, 5, rm 5 vs, sb, cb, rfl, ⟨⟨rfl, .inr ⟨P, 0, 5, rfl, by decide, by decide, hP.cells0, hP.lt⟩⟩, fun i v hi hv => ?_⟩, hb', hbe⟩
  have hi' : i < 5 := hi
  rw [rm_get hi'] at hv
  injection hv with hv
  subst hv
  have h := hl' i hi'
  match i, hi' with
  | 0, _ => rw [l0] at h; exact h
  | 1, _ => rw [l1] at h; exact h
  | 2, _ => rw [l2] at h; exact h
  | 3, _ => rw [l3] at h; exact h
  | 4, _ => rw [l4] at h; exact h
theorem follows4 (sa sr : Option Addr) (ca cr : Nat) (bs : List Value) (w : World) (h : LgAt w ex sa sr ca cr bs) :
    Calls Try.prog 10 #[lgV ex sa sr ca cr, .int .i64 3] w fun e w' => ∃ so co, e = .returned (.tuple #[.slice so 5 co, .bool false]) ∧ Sl w' 1 (.slice so 5 co) 5 (([true, true, false, true, true] : List Bool).map .bool) ∧ Below w.heap.size w w' := by
  refine (pfollows_any ex 3 sa sr ca cr bs ex_rg w h (by decide)).mono ?_
  rintro e w' ⟨so, co, rfl, hs, hb⟩
  rw [ex_follows.1] at hs ⊢
  rw [ex_follows.2]
  exact ⟨so, co, rfl, hs, hb⟩
theorem why34 (sa sr : Option Addr) (ca cr : Nat) (bs : List Value) (w : World) (h : LgAt w ex sa sr ca cr bs) :
    Calls Try.prog 24 #[lgV ex sa sr ca cr, .int .i64 3, .int .i64 4] w fun e w' => ∃ so co, e = .returned (.tuple #[.slice so 2 co, .int .i64 0]) ∧ Sl w' 1 (.slice so 2 co) 2 (([0, 2] : List Int).map (.int .i64)) ∧ Below w.heap.size w w' := by
  refine (pwhy_any ex 3 4 4 sa sr ca cr bs ex_rg w h (by decide) (by rw [ex_is.1]; exact ex_fits.1) (by decide) (need_small q3 n34)).mono ?_
  rintro e w' ⟨so, co, out, E, rfl, hs, hw, hb⟩
  obtain ⟨rfl, rfl⟩ := w34 hw
  exact ⟨so, co, rfl, hs, hb⟩
theorem why74 (sa sr : Option Addr) (ca cr : Nat) (bs : List Value) (w : World) (h : LgAt w ex sa sr ca cr bs) :
    Calls Try.prog 24 #[lgV ex sa sr ca cr, .int .i64 7, .int .i64 4] w fun e w' => ∃ so co, e = .returned (.tuple #[.slice so 2 co, .int .i64 0]) ∧ Sl w' 1 (.slice so 2 co) 2 (([0, 2] : List Int).map (.int .i64)) ∧ Below w.heap.size w w' := by
  refine (pwhy_any ex 7 4 4 sa sr ca cr bs ex_rg w h (by decide) (by rw [ex_is.2.1]; exact ex_fits.1) (by decide) (need_small q7 n74)).mono ?_
  rintro e w' ⟨so, co, out, E, rfl, hs, hw, hb⟩
  obtain ⟨rfl, rfl⟩ := w74 hw
  exact ⟨so, co, rfl, hs, hb⟩
theorem why6m (sa sr : Option Addr) (ca cr : Nat) (bs : List Value) (w : World) (h : LgAt w ex sa sr ca cr bs) :
    Calls Try.prog 24 #[lgV ex sa sr ca cr, .int .i64 6, .int .i64 (-1)] w fun e w' => ∃ so co, e = .returned (.tuple #[.slice so 1 co, .int .i64 0]) ∧ Sl w' 1 (.slice so 1 co) 1 (([3] : List Int).map (.int .i64)) ∧ Below w.heap.size w w' := by
  refine (pwhy_any ex 6 (-1) 4 sa sr ca cr bs ex_rg w h (by decide) (by rw [ex_is.2.2.1]; exact ex_fits.2) (by decide) (need_small q6 n6m)).mono ?_
  rintro e w' ⟨so, co, out, E, rfl, hs, hw, hb⟩
  obtain ⟨rfl, rfl⟩ := w6m hw
  exact ⟨so, co, rfl, hs, hb⟩
theorem why14 (sa sr : Option Addr) (ca cr : Nat) (bs : List Value) (w : World) (h : LgAt w ex sa sr ca cr bs) :
    Calls Try.prog 24 #[lgV ex sa sr ca cr, .int .i64 1, .int .i64 4] w fun e w' => ∃ so co, e = .returned (.tuple #[.slice so 0 co, .int .i64 6]) ∧ Below w.heap.size w w' := by
  refine (pwhy_any ex 1 4 4 sa sr ca cr bs ex_rg w h (by decide) (by rw [ex_is.2.2.2]; exact ex_fits.1) (by decide) (need_small q1 n14)).mono ?_
  rintro e w' ⟨so, co, out, E, rfl, hs, hw, hb⟩
  obtain ⟨rfl, rfl⟩ := w14 hw
  exact ⟨so, co, rfl, hb⟩
theorem check4 (p : List Int) (sa sr sp : Option Addr) (ca cr cp : Nat) (bs : List Value) (w : World) (h : LgAt w ex sa sr ca cr bs) (hp : Sl w 1 (.slice sp p.length cp) p.length (p.map (.int .i64))) (hpl : p.length ≤ 1000000) :
    Calls Try.prog 27 #[lgV ex sa sr ca cr, .int .i64 3, .int .i64 4, .slice sp p.length cp] w fun e w' => e = .returned (.int .i64 (checkE ex true 3 4 p)) ∧ Below w.heap.size w w' := by
  have h := pcheck_any ex 3 4 p sa sr sp ca cr cp bs ex_rg w h (by decide) hp hpl
  rw [ex_is.1] at h
  exact h
end Go.Proofs.Ytcbmifaobdamhaa
