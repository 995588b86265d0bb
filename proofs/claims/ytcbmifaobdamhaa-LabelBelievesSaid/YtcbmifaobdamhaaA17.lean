/- label: labels and nogoods in memory. -/
import Derived.Test.YtcbmifaobdamhaaA16
import Derived.Test.YtcbmifaobdamhaaP2
import Derived.Deep.AppendLies
namespace Go.Own
open Go.RowKit
theorem own_far {w w' : World} {base size n : Nat} {e : TypeId} {v : Value} {xs : List Value} {row : Option Nat} (h : w.ownsRow base e size v n xs) (hg : w.grownBy w' row) (hr : ∀ k, v.ownBlock = some k → row ≠ some k) : w'.ownsRow base e size v n xs := by
  refine ⟨h.1, ?_⟩
  rcases h.2 with hn | ⟨g, cap, cur, rfl, hb, hgg, rest⟩
  · exact .inl hn
  · exact .inr ⟨g, cap, cur, rfl, hb, (hg.block g (Array.getElem?_eq_some_iff.1 hgg).1 (fun e => hr g rfl e.symm)).trans hgg, rest⟩
theorem Chg.grown {F : List Nat} {a w w' : World} {row : Option Nat} (h : Chg F a w) (hg : w.grownBy w' row) (hr : ∀ k, row = some k → a.heap.size ≤ k) : Chg F a w' :=
  ⟨hg.os.trans h.os, hg.tape.trans h.tape, hg.output.trans h.output, Nat.le_trans h.size hg.size, fun k hk hn => (hg.block k (Nat.lt_of_lt_of_le hk h.size) (fun e => by have := hr k e.symm; omega)).trans (h.block k hk hn)⟩
end Go.Own
namespace Go.Label
open Go.RowKit Go.Own
def ints (l : List Nat) : List Value := l.map fun (j : Nat) => Value.int .i64 j
theorem ints_len (l : List Nat) : (ints l).length = l.length := by simp [ints]
/-- labels and nogoods lie in memory: in the block P the labels, in the block P + 2 the nogoods -/
structure LabM (tS tI : TypeId) (W0 W : World) (P F : Nat) (lab : Nat → List Nat) (bad : List Nat) (vs : Nat → Value) (vb : Value) : Prop where
  lt : P + 2 < W0.heap.size
  lb : Blk W P (rm F vs) tS
  bb : Blk W (P + 2) [vb] tS
  own : ∀ f, f < F → W.ownsRow W0.heap.size tI 1 (vs f) (lab f).length (ints (lab f))
  ownb : W.ownsRow W0.heap.size tI 1 vb bad.length (ints bad)
  dis : ∀ f g k, f < F → g < F → f ≠ g → (vs f).ownBlock = some k → (vs g).ownBlock ≠ some k
  disb : ∀ f k, f < F → (vs f).ownBlock = some k → vb.ownBlock ≠ some k
  chg : Chg [P, P + 2] W0 W
variable {tS tI : TypeId} {W0 W W' : World} {P F : Nat} {lab : Nat → List Nat} {bad : List Nat} {vs : Nat → Value} {vb : Value}
theorem LabM.size (h : LabM tS tI W0 W P F lab bad vs vb) : W0.heap.size ≤ W.heap.size := h.chg.size
theorem LabM.below (h : LabM tS tI W0 W P F lab bad vs vb) (hb : Below W.heap.size W W') : LabM tS tI W0 W' P F lab bad vs vb :=
  ⟨h.lt, h.lb.below hb h.lb.lt, h.bb.below hb h.bb.lt, fun f hf => own_below (h.own f hf) hb, own_below h.ownb hb, h.dis, h.disb, h.chg.trans (Chg.of_below hb)⟩
theorem LabM.drewN (h : LabM tS tI W0 W P F lab bad vs vb) (n : Nat) : LabM tS tI W0 (W.drewN n) P F lab bad vs vb := h.below (below_drewN (Below.refl _ _) n)
theorem LabM.alloc (h : LabM tS tI W0 W P F lab bad vs vb) (o : Obj) : LabM tS tI W0 (W.alloc o) P F lab bad vs vb := h.below (alloc_below _ _)
theorem LabM.kept (h : LabM tS tI W0 W P F lab bad vs vb) {row : Option Nat} (hg : W.grownBy W' row) (hr : ∀ r, row = some r → W0.heap.size ≤ r ∧ ∃ o : Obj, W.heap[r]? = some o ∧ o.isCells = false) : LabM tS tI W0 W' P F lab bad vs vb :=
  ⟨h.lt, h.lb.kept hg fun r e => (hr r e).2, h.bb.kept hg fun r e => (hr r e).2, fun f hf => own_kept (h.own f hf) hg fun r e => (hr r e).2, own_kept h.ownb hg fun r e => (hr r e).2, h.dis, h.disb, h.chg.grown hg fun r e => (hr r e).1⟩
theorem own_lt {w : World} {base size n : Nat} {e : TypeId} {v : Value} {xs : List Value} (h : w.ownsRow base e size v n xs) {k : Nat} (hk : v.ownBlock = some k) : base ≤ k ∧ k < w.heap.size := h.lt k hk
/-- a row of the labels has grown -/
theorem LabM.put (h : LabM tS tI W0 W P F lab bad vs vb) {f s g cap : Nat} (hf : f < F) (hg : W.grownBy W' (vs f).ownBlock) (ho : W'.ownsRow W0.heap.size tI 1 (.slice (some ⟨g, 0, none⟩) ((lab f).length + 1) cap) ((lab f).length + 1) (ints (lab f) ++ [.int .i64 s]))
    (hat : (vs f).ownBlock = some g ∨ g = W.heap.size) :
    LabM tS tI W0 (W'.setCell ⟨P, f, none⟩ (.slice (some ⟨g, 0, none⟩) ((lab f).length + 1) cap)) P F (fun j => if j = f then lab f ++ [s] else lab j) bad (fun j => if j = f then .slice (some ⟨g, 0, none⟩) ((lab f).length + 1) cap else vs j) vb := by
  have hP : ∀ k, (vs f).ownBlock = some k → P + 2 < k := fun k hk => by have := (own_lt (h.own f hf) hk).1; have := h.lt; omega
  have hgB : ∀ v n xs, W.ownsRow W0.heap.size tI 1 v n xs → (∀ k, v.ownBlock = some k → (vs f).ownBlock ≠ some k) → (∀ k, v.ownBlock = some k → (Value.slice (some ⟨g, 0, none⟩) ((lab f).length + 1) cap).ownBlock ≠ some k) := fun v n xs hv hd k hk e => by
    have e1 : some g = some k := e
    injection e1 with e1
    subst e1
    rcases hat with hat | hat
    · exact hd _ hk hat
    · have := (own_lt hv hk).2; omega
  have hgP : P + 2 < g := by
    rcases hat with hat | hat
    · exact hP g hat
    · have := h.lt; have := h.size; omega
  refine ⟨h.lt, ?_, ?_, fun j hj => ?_, ?_, fun i j k hi hj hij hk => ?_, fun j k hj hk => ?_, ?_⟩
  · have h1 := (h.lb.grown hg (fun e => by have := hP P e.symm; omega)).set f (.slice (some ⟨g, 0, none⟩) ((lab f).length + 1) cap)
    rwa [rm_set] at h1
  · exact (h.bb.grown hg (fun e => by have := hP (P + 2) e.symm; omega)).set_ne _ (by simp)
  · by_cases e : j = f
    · subst e
      rw [if_pos rfl, if_pos rfl]
      have : ints (lab j ++ [s]) = ints (lab j) ++ [.int .i64 s] := by simp [ints]
      rw [this, List.length_append]
      exact own_set ho (fun k hk => by
        have e1 : some g = some k := hk
        injection e1 with e1
        subst e1
        simp; omega)
    · rw [if_neg e, if_neg e]
      refine own_set (own_far (h.own j hj) hg fun k hk e2 => h.dis f j k hf hj (fun e3 => e e3.symm) e2 hk) fun k hk => ?_
      have := (own_lt (h.own j hj) hk).1
      have := h.lt
      simp; omega
  · refine own_set (own_far h.ownb hg fun k hk e2 => h.disb f k hf e2 hk) fun k hk => ?_
    have := (own_lt h.ownb hk).1
    have := h.lt
    simp; omega
  · by_cases e1 : i = f
    · rw [if_pos e1] at hk
      rw [if_neg (fun e => hij (e1.trans e.symm))]
      have e2 : some g = some k := hk
      injection e2 with e2
      subst e2
      intro h2
      exact hgB _ _ _ (h.own j hj) (fun k hk => fun e => h.dis f j k hf hj (fun e3 => hij (e1.trans e3)) e hk) g h2 rfl
    · rw [if_neg e1] at hk
      by_cases e2 : j = f
      · rw [if_pos e2]
        exact hgB _ _ _ (h.own i hi) (fun k hk => fun e => h.dis f i k hf hi (fun e3 => e1 e3.symm) e hk) k hk
      · rw [if_neg e2]
        exact h.dis i j k hi hj hij hk
  · by_cases e1 : j = f
    · rw [if_pos e1] at hk
      have e2 : some g = some k := hk
      injection e2 with e2
      subst e2
      intro h2
      exact hgB _ _ _ h.ownb (fun k hk => fun e => h.disb f k hf e hk) g h2 rfl
    · rw [if_neg e1] at hk
      exact h.disb j k hj hk
  · exact (h.chg.grown hg fun k hk => (own_lt (h.own f hf) hk).1).set _ (by simp)
/-- the row of the nogoods has grown -/
theorem LabM.putb (h : LabM tS tI W0 W P F lab bad vs vb) {s g cap : Nat} (hg : W.grownBy W' vb.ownBlock) (ho : W'.ownsRow W0.heap.size tI 1 (.slice (some ⟨g, 0, none⟩) (bad.length + 1) cap) (bad.length + 1) (ints bad ++ [.int .i64 s]))
    (hat : vb.ownBlock = some g ∨ g = W.heap.size) :
    LabM tS tI W0 (W'.setCell ⟨P + 2, 0, none⟩ (.slice (some ⟨g, 0, none⟩) (bad.length + 1) cap)) P F lab (bad ++ [s]) vs (.slice (some ⟨g, 0, none⟩) (bad.length + 1) cap) := by
  have hP : ∀ k, vb.ownBlock = some k → P + 2 < k := fun k hk => by have := (own_lt h.ownb hk).1; have := h.lt; omega
  have hgP : P + 2 < g := by
    rcases hat with hat | hat
    · exact hP g hat
    · have := h.lt; have := h.size; omega
  refine ⟨h.lt, ?_, ?_, fun j hj => ?_, ?_, h.dis, fun j k hj hk e => ?_, ?_⟩
  · exact (h.lb.grown hg (fun e => by have := hP P e.symm; omega)).set_ne _ (by simp)
  · have h1 := (h.bb.grown hg (fun e => by have := hP (P + 2) e.symm; omega)).set 0 (.slice (some ⟨g, 0, none⟩) (bad.length + 1) cap)
    exact h1
  · refine own_set (own_far (h.own j hj) hg fun k hk e2 => h.disb j k hj hk e2) fun k hk => ?_
    have := (own_lt (h.own j hj) hk).1
    have := h.lt
    simp; omega
  · have : ints (bad ++ [s]) = ints bad ++ [.int .i64 s] := by simp [ints]
    rw [this, List.length_append]
    exact own_set ho (fun k hk => by
      have e1 : some g = some k := hk
      injection e1 with e1
      subst e1
      simp; omega)
  · have e1 : some g = some k := e
    injection e1 with e1
    subst e1
    rcases hat with hat | hat
    · exact h.disb j _ hj hk hat
    · have := (own_lt (h.own j hj) hk).2; omega
  · exact (h.chg.grown hg fun k hk => (own_lt h.ownb hk).1).set _ (by simp)
theorem LabM.keep (h : LabM tS tI W0 W P F lab bad vs vb) {lab' : Nat → List Nat} {bad' : List Nat} {vs' : Nat → Value} {vb' : Value} (h' : LabM tS tI W0 W' P F lab' bad' vs' vb') {k : Nat} (hk : k < W0.heap.size) (h1 : k ≠ P) (h2 : k ≠ P + 2) : W'.heap[k]? = W.heap[k]? :=
  (h'.chg.block k hk (by simp; omega)).trans (h.chg.block k hk (by simp; omega)).symm
theorem LabM.blk (h : LabM tS tI W0 W P F lab bad vs vb) {g : Nat} {l : List Value} {t : TypeId} (hb : Blk W0 g l t) (h1 : g ≠ P) (h2 : g ≠ P + 2) : Blk W g l t := hb.chg h.chg (by simp; omega)
theorem LabM.low (h : LabM tS tI W0 W P F lab bad vs vb) {W1 : World} (hb : Below W1.heap.size W1 W0) (h1 : W1.heap.size ≤ P) : Below W1.heap.size W1 W :=
  hb.trans (h.chg.below hb.size (by simp; omega))
theorem ints_map (l : List Nat) : ints l = (l.map fun (j : Nat) => (j : Int)).map (.int .i64) := by unfold ints; rw [List.map_map]; rfl
theorem any_prt {l : List Nat} {s : Nat} (h : ∀ t ∈ l, t < 65536) (hs : s < 65536) : ((l.map fun (j : Nat) => (j : Int)).any fun x => bits .and .i64 x s == x) = l.any fun x => prt x s := by
  rw [List.any_map]
  have : ∀ t ∈ l, (bits .and .i64 (t : Int) s == (t : Int)) = prt t s := fun t ht => by
    rw [Ib.b_and t s (by have := h t ht; omega) (by omega)]
    unfold prt
    rw [Bool.eq_iff_iff, beq_iff_eq, beq_iff_eq]
    omega
  rw [Bool.eq_iff_iff, List.any_eq_true, List.any_eq_true]
  exact ⟨fun ⟨t, h1, h2⟩ => ⟨t, h1, by rw [← this t h1]; exact h2⟩, fun ⟨t, h1, h2⟩ => ⟨t, h1, by show (bits .and .i64 (t : Int) s == (t : Int)) = true; rw [this t h1]; exact h2⟩⟩
theorem rm_inj {n : Nat} {f g : Nat → Value} (h : rm n f = rm n g) {i : Nat} (hi : i < n) : f i = g i := by
  have h1 := congrArg (fun l => l[i]?) h
  simp only [rm_get hi] at h1
  injection h1
theorem blk_same {w : World} {g : Nat} {l l' : List Value} {t t' : TypeId} (h : Blk w g l t) (h' : Blk w g l' t') : l = l' := by
  unfold Blk at h h'
  rw [h] at h'
  injection h' with h'
  injection h' with h1
  exact List.toArray_inj h1
/-- labels, of which the first f facts have seen the set s -/
def labF (K s : Nat) (L : Nat → List Nat) (f j : Nat) : List Nat := if j < f then upd K s j (L j) else L j
theorem labF_at (K s : Nat) (L : Nat → List Nat) (f : Nat) : labF K s L f f = L f := by unfold labF; rw [if_neg (by omega)]
theorem labF_same {K s : Nat} {L : Nat → List Nat} {f : Nat} (h : upd K s f (L f) = L f) : labF K s L (f + 1) = labF K s L f := by
  funext j
  unfold labF
  by_cases e : j = f
  · subst e; rw [if_pos (by omega), if_neg (by omega), h]
  · by_cases h1 : j < f
    · rw [if_pos h1, if_pos (by omega)]
    · rw [if_neg h1, if_neg (by omega)]
theorem labF_more {K s : Nat} {L : Nat → List Nat} {f : Nat} (h : upd K s f (L f) = L f ++ [s]) : labF K s L (f + 1) = fun j => if j = f then labF K s L f f ++ [s] else labF K s L f j := by
  funext j
  rw [labF_at]
  unfold labF
  by_cases e : j = f
  · subst e; rw [if_pos (by omega), if_pos rfl, h]
  · rw [if_neg e]
    by_cases h1 : j < f
    · rw [if_pos h1, if_pos (by omega)]
    · rw [if_neg h1, if_neg (by omega)]
theorem LabM.congr (h : LabM tS tI W0 W P F lab bad vs vb) {lab' : Nat → List Nat} (he : ∀ f, f < F → lab f = lab' f) : LabM tS tI W0 W P F lab' bad vs vb :=
  ⟨h.lt, h.lb, h.bb, fun f hf => by rw [← he f hf]; exact h.own f hf, h.ownb, h.dis, h.disb, h.chg⟩
end Go.Label
