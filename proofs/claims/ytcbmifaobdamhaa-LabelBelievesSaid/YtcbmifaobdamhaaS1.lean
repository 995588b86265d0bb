/- label: rows of words as functions of the place: swaps, shuffles within bounds, sorted stretches. -/
import Derived.Test.YtcbmifaobdamhaaRf
import Derived.Test.YtcbmifaobdamhaaSqC
import Derived.Test.YtcbmifaobdamhaaMp
import Derived.Test.YtcbmifaobdamhaaProg
import Derived.Test.YtcbmifaobdamhaaA5
namespace Go.Own
open Go.RowKit
/-- by key, then by value -/
def lexR (key : Int → Int) (x y : Int) : Prop := key x < key y ∨ (key x = key y ∧ x < y)
theorem lexR.trans {key : Int → Int} {x y z : Int} (h : lexR key x y) (k : lexR key y z) : lexR key x z := by
  unfold lexR at *; omega
def rowF (n : Nat) (f : Nat → Int) : List Value := (List.range n).map fun k => .int .i64 (f k)
theorem rowF_len (n : Nat) (f : Nat → Int) : (rowF n f).length = n := by simp [rowF]
theorem rowF_get {n k : Nat} (f : Nat → Int) (sp : List Value) (h : k < n) : (rowF n f ++ sp)[k]? = some (.int .i64 (f k)) := by
  rw [List.getElem?_append_left (by rw [rowF_len]; exact h)]
  simp [rowF, h]
theorem rowF_congr {n : Nat} {f f' : Nat → Int} (h : ∀ k, k < n → f k = f' k) : rowF n f = rowF n f' := by
  unfold rowF
  exact List.map_congr_left fun k hk => by rw [h k (List.mem_range.1 hk)]
def updF (f : Nat → Int) (k : Nat) (v : Int) : Nat → Int := fun i => if i = k then v else f i
theorem rowF_set {n k : Nat} (f : Nat → Int) (sp : List Value) (v : Int) (h : k < n) : (rowF n f ++ sp).set k (.int .i64 v) = rowF n (updF f k v) ++ sp := by
  rw [List.set_append_left _ _ (by rw [rowF_len]; exact h)]
  congr 1
  apply List.ext_getElem?
  intro i
  rw [List.getElem?_set]
  simp only [rowF, List.length_map, List.length_range, List.getElem?_map]
  by_cases hi : i < n
  · by_cases hk : k = i
    · subst hk; simp [h, updF]
    · simp [hk, hi, updF, Ne.symm hk]
  · rw [if_neg (by omega)]
    simp [hi]
theorem rowF_of (xs : List Int) : rowF xs.length (fun k => xs.getD k 0) = xs.map (.int .i64) := by
  apply List.ext_getElem?
  intro i
  by_cases hi : i < xs.length
  · simp [rowF, hi]
  · simp [rowF, hi]
/-- f shuffled within bounds is f'. -/
def Sh (a b : Nat) (f f' : Nat → Int) : Prop := ∃ s t : Nat → Nat, (∀ k, s (t k) = k) ∧ (∀ k, t (s k) = k) ∧ (∀ k, k < a ∨ b ≤ k → s k = k) ∧ ∀ k, f' k = f (s k)
theorem Sh.refl (a b : Nat) (f : Nat → Int) : Sh a b f f := ⟨id, id, fun _ => rfl, fun _ => rfl, fun _ _ => rfl, fun _ => rfl⟩
theorem Sh.trans {a b : Nat} {f g h : Nat → Int} (x : Sh a b f g) (y : Sh a b g h) : Sh a b f h := by
  obtain ⟨s, t, h1, h2, h3, h4⟩ := x
  obtain ⟨s', t', k1, k2, k3, k4⟩ := y
  refine ⟨fun k => s (s' k), fun k => t' (t k), fun k => by dsimp only; rw [k1, h1], fun k => by dsimp only; rw [h2, k2], fun k hk => by dsimp only; rw [k3 k hk, h3 k hk], fun k => by rw [k4, h4]⟩
theorem Sh.mono {a b a' b' : Nat} {f f' : Nat → Int} (x : Sh a b f f') (h1 : a' ≤ a) (h2 : b ≤ b') : Sh a' b' f f' := by
  obtain ⟨s, t, k1, k2, k3, k4⟩ := x
  exact ⟨s, t, k1, k2, fun k hk => k3 k (by omega), k4⟩
theorem Sh.out {a b : Nat} {f f' : Nat → Int} (x : Sh a b f f') {k : Nat} (h : k < a ∨ b ≤ k) : f' k = f k := by
  obtain ⟨s, t, k1, k2, k3, k4⟩ := x
  rw [k4, k3 k h]
theorem Sh.mem {a b : Nat} {f f' : Nat → Int} (x : Sh a b f f') {k : Nat} (h1 : a ≤ k) (h2 : k < b) : ∃ j, a ≤ j ∧ j < b ∧ f' k = f j := by
  obtain ⟨s, t, k1, k2, k3, k4⟩ := x
  refine ⟨s k, ?_, ?_, k4 k⟩
  · apply Nat.le_of_not_lt
    intro h
    have h3 := k3 (s k) (.inl h)
    have h5 := congrArg t h3
    rw [k2, k2] at h5
    omega
  · apply Nat.lt_of_not_le
    intro h
    have h3 := k3 (s k) (.inr h)
    have h5 := congrArg t h3
    rw [k2, k2] at h5
    omega
def swp (f : Nat → Int) (i j : Nat) : Nat → Int := fun k => if k = i then f j else if k = j then f i else f k
theorem sh_swp {a b i j : Nat} (f : Nat → Int) (h1 : a ≤ i) (h2 : i < b) (h3 : a ≤ j) (h4 : j < b) : Sh a b f (swp f i j) := by
  refine ⟨fun k => if k = i then j else if k = j then i else k, fun k => if k = i then j else if k = j then i else k, ?_, ?_, ?_, ?_⟩
  · intro k; dsimp only
    by_cases e1 : k = i
    · subst e1; rw [if_pos rfl]; by_cases e2 : j = k
      · simp [e2]
      · rw [if_neg e2, if_pos rfl]
    · rw [if_neg e1]
      by_cases e2 : k = j
      · subst e2; rw [if_pos rfl, if_pos rfl]
      · rw [if_neg e2, if_neg e1, if_neg e2]
  · intro k; dsimp only
    by_cases e1 : k = i
    · subst e1; rw [if_pos rfl]; by_cases e2 : j = k
      · simp [e2]
      · rw [if_neg e2, if_pos rfl]
    · rw [if_neg e1]
      by_cases e2 : k = j
      · subst e2; rw [if_pos rfl, if_pos rfl]
      · rw [if_neg e2, if_neg e1, if_neg e2]
  · intro k hk; dsimp only
    rw [if_neg (by omega), if_neg (by omega)]
  · intro k; unfold swp; dsimp only
    by_cases e1 : k = i
    · rw [if_pos e1, if_pos e1]
    · rw [if_neg e1, if_neg e1]
      by_cases e2 : k = j
      · rw [if_pos e2, if_pos e2]
      · rw [if_neg e2, if_neg e2]
theorem updF_swp (f : Nat → Int) (i j : Nat) : updF (updF f i (f j)) j (f i) = swp f i j := by
  funext k
  unfold updF swp
  by_cases e1 : k = i
  · subst e1
    by_cases e2 : k = j
    · subst e2; simp
    · simp [e2]
  · by_cases e2 : k = j
    · subst e2; simp [e1]
    · simp [e1, e2]
theorem sh_perm {a b n : Nat} {f f' : Nat → Int} (x : Sh a b f f') (hb : b ≤ n) : ((List.range n).map f').Perm ((List.range n).map f) := by
  have hm : ∀ k, a ≤ k → k < b → ∃ j, j < n ∧ x.choose k = j := by
    intro k h1 h2
    obtain ⟨t, k1, k2, k3, k4⟩ := x.choose_spec
    refine ⟨_, ?_, rfl⟩
    apply Nat.lt_of_not_le
    intro h
    have h3 := k3 (x.choose k) (.inr (by omega))
    have h5 := congrArg t h3
    rw [k2, k2] at h5
    omega
  obtain ⟨t, k1, k2, k3, k4⟩ := x.choose_spec
  generalize x.choose = s at *
  have hs : ∀ k, k < n → s k < n := by
    intro k hk
    by_cases h : k < a ∨ b ≤ k
    · rw [k3 k h]; exact hk
    · obtain ⟨j, h1, h2⟩ := hm k (by omega) (by omega)
      omega
  have ht : ∀ k, k < n → t k < n := by
    intro k hk
    apply Nat.lt_of_not_le
    intro h
    have h3 := k3 (t k) (.inr (by omega))
    rw [k1] at h3
    omega
  have e : (List.range n).map f' = ((List.range n).map s).map f := by
    rw [List.map_map]
    exact List.map_congr_left fun k _ => k4 k
  rw [e]
  refine List.Perm.map _ ?_
  refine (List.perm_ext_iff_of_nodup ?_ List.nodup_range).2 fun z => ?_
  · refine List.nodup_iff_pairwise_ne.2 (List.pairwise_map.2 ?_)
    refine List.Pairwise.imp (fun {i j} (h : i ≠ j) => ?_) (List.nodup_iff_pairwise_ne.1 List.nodup_range)
    intro hh
    have := congrArg t hh
    rw [k2, k2] at this
    exact h this
  · rw [List.mem_map, List.mem_range]
    constructor
    · rintro ⟨k, hk, rfl⟩
      exact hs k (List.mem_range.1 hk)
    · intro hz
      exact ⟨t z, List.mem_range.2 (ht z hz), k1 z⟩
def SrtF (key : Int → Int) (f : Nat → Int) (a b : Nat) : Prop := ∀ i j, a ≤ i → i < j → j < b → lexR key (f i) (f j)
/-- Where the keys are the same, the left part has the lesser values. -/
def Crs (key : Int → Int) (f : Nat → Int) (a m b : Nat) : Prop := ∀ i j, a ≤ i → i < m → m ≤ j → j < b → key (f i) = key (f j) → f i < f j
theorem SrtF.key {key : Int → Int} {f : Nat → Int} {a b i j : Nat} (h : SrtF key f a b) (h1 : a ≤ i) (h2 : i ≤ j) (h3 : j < b) : key (f i) ≤ key (f j) := by
  rcases Nat.lt_or_eq_of_le h2 with h4 | rfl
  · have := h i j h1 h4 h3
    unfold lexR at this; omega
  · exact Int.le_refl _
theorem SrtF.join {key : Int → Int} {f : Nat → Int} {a m b : Nat} (h1 : SrtF key f a m) (h2 : SrtF key f m b) (h3 : ∀ i j, a ≤ i → i < m → m ≤ j → j < b → lexR key (f i) (f j)) : SrtF key f a b := by
  intro i j ha hij hb
  by_cases hi : i < m
  · by_cases hj : j < m
    · exact h1 i j ha hij hj
    · exact h3 i j ha hi (by omega) hb
  · exact h2 i j (by omega) hij hb
theorem srt_pair {key : Int → Int} {f : Nat → Int} {n : Nat} (h : SrtF key f 0 n) : ((List.range n).map f).Pairwise (lexR key) := by
  rw [List.pairwise_map]
  rw [List.pairwise_iff_getElem]
  intro i j hi hj hij
  simp only [List.getElem_range]
  rw [List.length_range] at hj
  exact h i j (Nat.zero_le _) hij hj
/-- two stretches of one length exchanged -/
def swr (f : Nat → Int) (a b c : Nat) : Nat → Int := fun k => if a ≤ k ∧ k < a + c then f (b + (k - a)) else if b ≤ k ∧ k < b + c then f (a + (k - b)) else f k
theorem swr_zero (f : Nat → Int) (a b : Nat) : swr f a b 0 = f := by
  funext k; unfold swr; rw [if_neg (by omega), if_neg (by omega)]
theorem swr_succ {f : Nat → Int} {a b c : Nat} (h : a + (c + 1) ≤ b) : swr f a b (c + 1) = swp (swr f a b c) (a + c) (b + c) := by
  funext k
  unfold swp
  by_cases e1 : k = a + c
  · subst e1
    rw [if_pos rfl]
    unfold swr
    rw [if_pos (by omega), if_neg (by omega), if_neg (by omega)]
    congr 1; omega
  · rw [if_neg e1]
    by_cases e2 : k = b + c
    · subst e2
      rw [if_pos rfl]
      unfold swr
      rw [if_neg (by omega), if_pos (by omega), if_neg (by omega), if_neg (by omega)]
      congr 1; omega
    · rw [if_neg e2]
      unfold swr
      by_cases h1 : a ≤ k ∧ k < a + c
      · rw [if_pos (by omega), if_pos h1]
      · rw [if_neg (by omega), if_neg h1]
        by_cases h2 : b ≤ k ∧ k < b + c
        · rw [if_pos (by omega), if_pos h2]
        · rw [if_neg (by omega), if_neg h2]
/-- two neighbouring stretches turned -/
def rot (f : Nat → Int) (a m b : Nat) : Nat → Int := fun k => if a ≤ k ∧ k < a + (b - m) then f (k + (m - a)) else if a + (b - m) ≤ k ∧ k < b then f (k - (b - m)) else f k
theorem rot_gt {f : Nat → Int} {m i j : Nat} (h1 : j < i) (h2 : i ≤ m) : rot (swr f (m - i) m j) (m - (i - j)) m (m + j) = rot f (m - i) m (m + j) := by
  funext k
  unfold rot swr
  repeat' split
  all_goals first
    | (exfalso; omega)
    | (congr 1 <;> omega)
    | rfl
    | (congr 1)
theorem rot_lt {f : Nat → Int} {m i j : Nat} (h1 : i < j) (h2 : i ≤ m) : rot (swr f (m - i) (m + j - i) i) (m - i) m (m + (j - i)) = rot f (m - i) m (m + j) := by
  funext k
  unfold rot swr
  repeat' split
  all_goals first
    | (exfalso; omega)
    | (congr 1 <;> omega)
    | rfl
    | (congr 1)
theorem rot_eq {f : Nat → Int} {m i : Nat} (h2 : i ≤ m) : swr f (m - i) m i = rot f (m - i) m (m + i) := by
  funext k
  unfold rot swr
  repeat' split
  all_goals first
    | (exfalso; omega)
    | (congr 1 <;> omega)
    | rfl
    | (congr 1)
theorem sh_swr {lo hi : Nat} (f : Nat → Int) {a b : Nat} (h1 : lo ≤ a) : ∀ {c : Nat}, a + c ≤ b → b + c ≤ hi → Sh lo hi f (swr f a b c)
  | 0, _, _ => by rw [swr_zero]; exact Sh.refl _ _ _
  | c + 1, h2, h3 => by
    rw [swr_succ h2]
    exact (sh_swr f h1 (c := c) (by omega) (by omega)).trans (sh_swp _ (by omega) (by omega) (by omega) (by omega))
end Go.Own
/- label: swapRange and rotate at a row of words in memory. -/
namespace Go.Proofs.Ytcbmifaobdamhaa
open Go.RowKit Go.Own Go.Theory Go.BigFrame Go.Shelf
attribute [local irreducible] SqC.SqW
set_option maxRecDepth 100000 in
set_option maxHeartbeats 1600000 in
theorem swr_any (n a b c g cap : Nat) (F : Nat → Int) (fv : Value) (sp : List Value) (hab : a + c ≤ b) (hbn : b + c ≤ n) (hn : n ≤ 1000000) (w : World) (hB : Blk w g (rowF n F ++ sp) 3) :
    Calls Try.prog 96 #[.slice (some ⟨g, 0, none⟩) n cap, .int .i64 a, .int .i64 b, .int .i64 c, fv] w fun e w' => e = .returned (.tuple #[]) ∧ Blk w' g (rowF n (swr F a b c) ++ sp) 3 ∧ Chg [g] w w' := by
  go_enter Try.func96, Try.ntmps96
  go_wp2
  go_loopw [10] (fun v wr => ∃ i : Nat, i ≤ c ∧ v = .int .i64 i ∧ Blk wr g (rowF n (swr F a b i) ++ sp) 3 ∧ Chg [g] w wr) (fun v _ => c - (vInt v).toNat)
  case atStart => exact ⟨0, by omega, rfl, by rw [swr_zero]; exact hB, Chg.refl _ _⟩
  case round =>
    obtain ⟨i, hi, rfl, hBr, hch⟩ := hrel
    by_cases hic : i < c
    · have hic' : (i : Int) < c := by omega
      have hs := swr_succ (f := F) (show a + (i + 1) ≤ b by omega)
      obtain ⟨G, hG⟩ : ∃ G, G = swr F a b i := ⟨_, rfl⟩
      rw [← hG] at hBr hs
      obtain ⟨p, hp⟩ : ∃ p, p = a + i := ⟨_, rfl⟩
      obtain ⟨q, hq⟩ : ∃ q, q = b + i := ⟨_, rfl⟩
      rw [← hp, ← hq] at hs
      have e1 : (a : Int) + i = p := by omega
      have e2 : (b : Int) + i = q := by omega
      have l1 : (p : Int) < n := by omega
      have l2 : (q : Int) < n := by omega
      have m1 : p < n := by omega
      have m2 : q < n := by omega
      have gp : (rowF n G ++ sp)[p]? = some (.int .i64 (G p)) := rowF_get G sp m1
      have gq : (rowF n G ++ sp)[q]? = some (.int .i64 (G q)) := rowF_get G sp m2
      obtain ⟨x, hx⟩ : ∃ x, x = G p := ⟨_, rfl⟩
      obtain ⟨y, hy⟩ : ∃ y, y = G q := ⟨_, rfl⟩
      rw [← hx] at gp
      rw [← hy] at gq
      have cx : wr.cell? ⟨g, p, none⟩ = some (.int .i64 x) := hBr.cell gp
      have cy : wr.cell? ⟨g, q, none⟩ = some (.int .i64 y) := hBr.cell gq
      have fx : wr.frozen? ⟨g, p, none⟩ = false := hBr.frozen p
      have fy : wr.frozen? ⟨g, q, none⟩ = false := hBr.frozen q
      have HX := Lib.hid hx; clear hx
      have HY := Lib.hid hy; clear hy
      have HS := Lib.hid hs; clear hs
      have HG := Lib.hid hG; clear hG
      have HP := Lib.hid hp; clear hp
      have HQ := Lib.hid hq; clear hq
      go_wp2
      go_region
      have hB3 : Blk (((wr.setCell ⟨g, p, none⟩ (.int .i64 y)).setCell ⟨g, q, none⟩ (.int .i64 x)).drew) g (rowF n (swr F a b (i + 1)) ++ sp) 3 := by
        have := (hBr.set p (.int .i64 y)).set q (.int .i64 x)
        rw [rowF_set _ _ _ m1, rowF_set _ _ _ m2, HX.out, HY.out, updF_swp, ← HS.out] at this
        rw [HX.out, HY.out]
        exact this.drew
      have hch3 : Chg [g] w (((wr.setCell ⟨g, p, none⟩ (.int .i64 y)).setCell ⟨g, q, none⟩ (.int .i64 x)).drew) := ((hch.set _ (by simp)).set _ (by simp)).drew
      go_wp2
      go_roundw
      case rel => exact ⟨i + 1, by omega, by go_num, hB3, hch3⟩
      case measure => simp [vInt]; omega
    · have hic' : ((i : Int) < c) = False := eq_false (by omega)
      obtain rfl : i = c := by omega
      go_wp2
      go_end0
      exact ⟨rfl, hBr, hch⟩
theorem sub_nat {a b : Nat} (h : b ≤ a) : ((a : Int) - b) = ((a - b : Nat) : Int) := by omega
set_option maxRecDepth 100000 in
set_option maxHeartbeats 1600000 in
theorem rot_any (n a m b g cap : Nat) (F : Nat → Int) (fv : Value) (sp : List Value) (ham : a < m) (hmb : m < b) (hbn : b ≤ n) (hn : n ≤ 1000000) (w : World) (hB : Blk w g (rowF n F ++ sp) 3) :
    Calls Try.prog 94 #[.slice (some ⟨g, 0, none⟩) n cap, .int .i64 a, .int .i64 m, .int .i64 b, fv] w fun e w' => e = .returned (.tuple #[]) ∧ Blk w' g (rowF n (rot F a m b) ++ sp) 3 ∧ Sh a b F (rot F a m b) ∧ Chg [g] w w' := by
  have e1 : ((m : Int) - a) = ((m - a : Nat) : Int) := by omega
  have e2 : ((b : Int) - m) = ((b - m : Nat) : Int) := by omega
  go_enter Try.func94, Try.ntmps94
  go_wp2
  clear e1 e2
  go_loopw [10, 11] (fun u v wr => ∃ (i j : Nat) (G : Nat → Int), 0 < i ∧ 0 < j ∧ a ≤ m - i ∧ i ≤ m ∧ m + j ≤ b ∧ u = .int .i64 i ∧ v = .int .i64 j ∧ rot G (m - i) m (m + j) = rot F a m b ∧ Sh a b F G ∧ Blk wr g (rowF n G ++ sp) 3 ∧ Chg [g] w wr) (fun u v _ => (vInt u).toNat + (vInt v).toNat)
  case atStart => exact ⟨m - a, b - m, F, by omega, by omega, by omega, by omega, by omega, rfl, rfl, by rw [show m - (m - a) = a by omega, show m + (b - m) = b by omega], Sh.refl _ _ _, hB, Chg.refl _ _⟩
  case round =>
    obtain ⟨i, j, G, i0, j0, h1, h2, h3, rfl, rfl, hr, hs, hBr, hch⟩ := hrel
    have e3 : ((m : Int) - i) = ((m - i : Nat) : Int) := by omega
    rcases Nat.lt_trichotomy i j with hij | rfl | hij
    · have hc := swr_any n (m - i) (m + j - i) i g cap G fv sp (by omega) (by omega) hn wr hBr
      have n1 : ((i : Int) = j) = False := eq_false (by omega)
      have n2 : ((j : Int) < i) = False := eq_false (by omega)
      have n3 : (j < i) = False := eq_false (by omega)
      have e4 : ((m : Int) + j - i) = ((m + j - i : Nat) : Int) := by omega
      have e5 : ((j : Int) - i) = ((j - i : Nat) : Int) := by omega
      have hs2 : Sh a b F (swr G (m - i) (m + j - i) i) := hs.trans (sh_swr G (by omega) (by omega) (by omega))
      rw [← rot_lt hij h2] at hr
      have HC := Lib.hid hc; clear hc
      have HR := Lib.hid hr; clear hr
      go_wp2_with (fail)
      refine HC.out.mono ?_
      rintro e w2 ⟨rfl, hB2, hc2⟩
      go_wp2
      go_roundw
      case rel => exact ⟨i, j - i, _, i0, by omega, h1, h2, by omega, rfl, by go_num, HR.out, hs2, hB2, hch.trans hc2⟩
      case measure => simp [vInt]; omega
    · have hc := swr_any n (m - i) m i g cap G fv sp (by omega) (by omega) hn wr hBr
      have hs2 : Sh a b F (swr G (m - i) m i) := hs.trans (sh_swr G (by omega) (by omega) (by omega))
      rw [← rot_eq h2] at hr
      rw [hr] at hc hs2
      have HC := Lib.hid hc; clear hc
      have HR := Lib.hid hr; clear hr
      go_wp2_with (fail)
      refine HC.out.mono ?_
      rintro e w2 ⟨rfl, hB2, hc2⟩
      go_wp2
      go_end0
      exact ⟨rfl, hB2, hs2, hch.trans hc2⟩
    · have hc := swr_any n (m - i) m j g cap G fv sp (by omega) (by omega) hn wr hBr
      have n1 : ((i : Int) = j) = False := eq_false (by omega)
      have n2 : (j : Int) < i := by omega
      have e5 : ((i : Int) - j) = ((i - j : Nat) : Int) := by omega
      have hs2 : Sh a b F (swr G (m - i) m j) := hs.trans (sh_swr G (by omega) (by omega) (by omega))
      rw [← rot_gt hij h2] at hr
      have HC := Lib.hid hc; clear hc
      have HR := Lib.hid hr; clear hr
      go_wp2_with (fail)
      refine HC.out.mono ?_
      rintro e w2 ⟨rfl, hB2, hc2⟩
      go_wp2
      go_roundw
      case rel => exact ⟨i - j, j, _, by omega, j0, by omega, by omega, h3, by go_num, rfl, HR.out, hs2, hB2, hch.trans hc2⟩
      case measure => simp [vInt]; omega
end Go.Proofs.Ytcbmifaobdamhaa
