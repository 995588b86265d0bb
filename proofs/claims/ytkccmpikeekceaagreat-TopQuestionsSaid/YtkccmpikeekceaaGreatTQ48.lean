/- ev: the loop function over the sides of a polygon. -/
import Derived.BigRegionIn
import Derived.Shelf.RegionOpen
import Derived.Test.YtkccmpikeekceaaGreatTQ47
/- ev: the loop function over the sides of a polygon. -/
section
namespace Go.Proofs.YtkccmpikeekceaaGreat
open Go.RowKit Go.Own Go.Ev Go.BigFrame Go.Shelf
attribute [local go_sem] Oper.semAt_some
/-- A vector's cells. -/
def IsVec (x : List Value) : Prop := ∃ b1 p1 n1 m1 b2 p2 n2 m2 b3 p3 n3 m3 b4 p4 n4 m4, x = [.bool b1, .slice p1 n1 m1, .bool b2, .slice p2 n2 m2, .bool b3, .slice p3 n3 m3, .bool b4, .slice p4 n4 m4]
/-- One side. -/
def sideOf (l : List (List Value)) (k : Nat) : List Value := [.agg ((l[k]?).getD []).toArray, .agg ((l[(k + 1) % l.length]?).getD []).toArray]
set_option maxRecDepth 100000 in
set_option maxHeartbeats 2000000 in
theorem sides1_in (n : Nat) (l : Nat) (b1 o1 c1 f1 pc : Nat) (xs : List (List Value)) (hx : xs.length < 1000000) (B : Nat → Prop) (hB : B b1 ∧ B c1)
    (J : Nat → World → Prop) (Jx : World → Prop) (W : World)
    (hJb : ∀ k A A', J k A → Below A.heap.size A A' → J k A')
    (hY : ∀ k x W1, J k W1 → ((List.range xs.length).map (sideOf xs))[k]? = some x → YieldAt Fence.wide n Tryz.prog l x.toArray W1 fun e W' => (e = .returned (.bool true) ∧ J (k + 1) W' ∧ (∀ c, B c → W'.heap[c]? = W1.heap[c]?) ∧ W1.heap.size ≤ W'.heap.size) ∨ (e = .returned (.bool false) ∧ Jx W'))
    (h1 : W.cell? ⟨b1, o1, none⟩ = some (.slice (some ⟨c1, f1, none⟩) xs.length pc)) (hb : ∀ c, B c → c < W.heap.size)
    (hc1 : ∀ i x, xs[i]? = some x → IsVec x ∧ ∀ j v, x[j]? = some v → W.cell? ⟨c1, f1 + i * 8 + j, none⟩ = some v)
    (h0 : J 0 W) :
    CallsIn Fence.wide (n + 1) Tryz.prog 262 #[.func (.yield l) #[] #[], .pointer (some ⟨b1, o1, none⟩)] W fun e W' => (∃ v, e = .returned v) ∧ (J xs.length W' ∨ Jx W') := by
  refine callsIn_of_wp Tryz.func262 rfl trivial ?_ rfl
  simp only [Tryz.ntmps262, List.size_toArray, List.length_cons, List.length_nil, Nat.reduceAdd, Nat.reduceSub, Array.replicate_succ, Array.replicate_zero, List.push_toArray, List.append_toArray, List.nil_append, List.cons_append]
  gi_wp2
  gi_loopw [7] (fun i wr => ∃ k : Nat, k ≤ xs.length ∧ i = .int .i64 k ∧ J k wr ∧ KpG B W wr)
    (fun i _ => xs.length - (vInt i).toNat)
  case atStart => exact ⟨0, Nat.zero_le _, rfl, h0, KpG.refl _ _⟩
  case round =>
    obtain ⟨k, hk, rfl, hJs, hK⟩ := hrel
    by_cases hlt : k < xs.length
    · have hlt' : (k : Int) < (xs.length : Int) := by omega
      obtain ⟨y1, p1, n1, m1, y2, p2, n2, m2, y3, p3, n3, m3, y4, p4, n4, m4, hy⟩ := (hc1 k xs[k] (by simp)).1
      have hz : ∀ j v, [.bool y1, .slice p1 n1 m1, .bool y2, .slice p2 n2 m2, .bool y3, .slice p3 n3 m3, .bool y4, .slice p4 n4 m4][j]? = some v → wr.cell? ⟨c1, f1 + k * 8 + j, none⟩ = some v := fun j v hv =>
        (hK.cell (p := ⟨c1, f1 + k * 8 + j, none⟩) hB.2).trans ((hc1 k xs[k] (by simp)).2 j v (by rw [hy]; exact hv))
      have z1 : wr.cell? ⟨c1, f1 + k * 8, none⟩ = some (.bool y1) := hz 0 _ rfl
      have z2 := hz 1 _ rfl
      have z3 := hz 2 _ rfl
      have z4 := hz 3 _ rfl
      have z5 := hz 4 _ rfl
      have z6 := hz 5 _ rfl
      have z7 := hz 6 _ rfl
      have z8 := hz 7 _ rfl
      gi_wp2
      generalize hW1 : wr.alloc _ = W1
      have hb1 : b1 < wr.heap.size := Nat.lt_of_lt_of_le (hb _ hB.1) hK.2
      have hb2 : c1 < wr.heap.size := Nat.lt_of_lt_of_le (hb _ hB.2) hK.2
      have hold : ∀ b o, b < wr.heap.size → W1.cell? ⟨b, o, none⟩ = wr.cell? ⟨b, o, none⟩ := fun b o hlt => World.cell?_of_block (by rw [← hW1]; exact Below.heap_alloc _ _ _ hlt)
      have hnew : ∀ i v, [Value.bool y1, .slice p1 n1 m1, .bool y2, .slice p2 n2 m2, .bool y3, .slice p3 n3 m3, .bool y4, .slice p4 n4 m4][i]? = some v → W1.cell? ⟨wr.heap.size, i, none⟩ = some v := fun i v hv => by
        rw [← hW1]
        unfold World.cell?
        rw [World.alloc_heap_new]
        simpa using hv
      have u1 := hnew 0 _ rfl
      have u2 := hnew 1 _ rfl
      have u3' := hnew 2 _ rfl
      have u4' := hnew 3 _ rfl
      have u5 := hnew 4 _ rfl
      have u6 := hnew 5 _ rfl
      have u7 := hnew 6 _ rfl
      have u8 := hnew 7 _ rfl
      have hbox : W1.cell? ⟨b1, o1, none⟩ = some (.slice (some ⟨c1, f1, none⟩) xs.length pc) := (hold _ _ hb1).trans ((hK.cell (p := ⟨b1, o1, none⟩) hB.1).trans h1)
      have hmod : (k + 1) % xs.length < xs.length := Nat.mod_lt _ (by omega)
      have hrem : ((k : Int) + 1) % (xs.length : Int) = (((k + 1) % xs.length : Nat) : Int) := by
        rw [show (k : Int) + 1 = ((k + 1 : Nat) : Int) by simp]; rfl
      obtain ⟨kk, hkk⟩ : ∃ kk, kk = (k + 1) % xs.length := ⟨_, rfl⟩
      rw [← hkk] at hmod hrem
      have hmod' : (kk : Int) < (xs.length : Int) := by omega
      obtain ⟨y1', p1', n1', m1', y2', p2', n2', m2', y3', p3', n3', m3', y4', p4', n4', m4', hy'⟩ := (hc1 kk xs[kk] (by simp)).1
      have hz' : ∀ j v, [Value.bool y1', .slice p1' n1' m1', .bool y2', .slice p2' n2' m2', .bool y3', .slice p3' n3' m3', .bool y4', .slice p4' n4' m4'][j]? = some v → W1.cell? ⟨c1, f1 + kk * 8 + j, none⟩ = some v := fun j v hv =>
        (hold _ _ hb2).trans ((hK.cell (p := ⟨c1, f1 + kk * 8 + j, none⟩) hB.2).trans ((hc1 kk xs[kk] (by simp)).2 j v (by rw [hy']; exact hv)))
      have q1 : W1.cell? ⟨c1, f1 + kk * 8, none⟩ = some (.bool y1') := hz' 0 _ rfl
      have q2 := hz' 1 _ rfl
      have q3 := hz' 2 _ rfl
      have q4 := hz' 3 _ rfl
      have q5 := hz' 4 _ rfl
      have q6 := hz' 5 _ rfl
      have q7 := hz' 6 _ rfl
      have q8 := hz' 7 _ rfl
      have hi0 : 0 ≤ ((k : Int) + 1) % (xs.length : Int) := by rw [hrem]; omega
      have hi1 : ((k : Int) + 1) % (xs.length : Int) < (xs.length : Int) := by rw [hrem]; omega
      have hkn : (((k : Int) + 1) % (xs.length : Int)).toNat = kk := by rw [hrem]; simp
      have hwr : IntKind.i64.wrap ((k : Int) + 1) = (k : Int) + 1 := IntWalk.i64_in _ ⟨by omega, by omega⟩
      have hj : ((k : Int) + 1).tmod (xs.length : Int) = (kk : Int) := by rw [Int.tmod_eq_emod_of_nonneg (by omega)]; exact hrem
      have hj0 : 0 ≤ ((k : Int) + 1).tmod (xs.length : Int) := by rw [hj]; omega
      have hj1 : ((k : Int) + 1).tmod (xs.length : Int) < (xs.length : Int) := by rw [hj]; omega
      have hsz : W1.heap.size = wr.heap.size + 1 := by rw [← hW1]; simp
      have hJ1 : J k W1.drew := hJb k wr _ hJs (by rw [← hW1]; exact (Below.refl _ wr).alloc (Nat.le_refl _) _ |>.trans ⟨rfl, rfl, rfl, Nat.le_refl _, fun _ _ => rfl⟩)
      have hYY : Gives Tryz.prog n l #[.agg #[.bool y1, .slice p1 n1 m1, .bool y2, .slice p2 n2 m2, .bool y3, .slice p3 n3 m3, .bool y4, .slice p4 n4 m4], .agg #[.bool y1', .slice p1' n1' m1', .bool y2', .slice p2' n2' m2', .bool y3', .slice p3' n3' m3', .bool y4', .slice p4' n4' m4']] W1.drew
          (fun W' => J (k + 1) W' ∧ (∀ c, B c → W'.heap[c]? = W1.drew.heap[c]?) ∧ W1.drew.heap.size ≤ W'.heap.size) Jx := by
        have := gives (hY k (sideOf xs k) W1.drew hJ1 (by simp [hlt]))
        have e : sideOf xs k = [.agg #[.bool y1, .slice p1 n1 m1, .bool y2, .slice p2 n2 m2, .bool y3, .slice p3 n3 m3, .bool y4, .slice p4 n4 m4], .agg #[.bool y1', .slice p1' n1' m1', .bool y2', .slice p2' n2' m2', .bool y3', .slice p3' n3' m3', .bool y4', .slice p4' n4' m4']] := by
          unfold sideOf
          rw [← hkk, List.getElem?_eq_getElem hlt, List.getElem?_eq_getElem hmod]
          simp only [Option.getD_some, hy, hy']
        rw [e] at this
        exact this
      have hWB : ∀ c, B c → W1.heap[c]? = wr.heap[c]? := fun c hc => by rw [← hW1]; exact Below.heap_alloc _ _ _ (Nat.lt_of_lt_of_le (hb c hc) hK.2)
      clear hold hnew hz hz' hW1 hrem hkk hkn hc1
      have hmix : Tryz.prog.follows .mixedOrders = true := by kernel_rfl
      have hn0 : ¬ ((xs.length : Int) = 0) := by omega
      have hn2 : ¬ (xs = []) := fun h => by rw [h] at hlt; exact absurd hlt (Nat.not_lt_zero _)
      gi_region_with_o (first | gi_big_move | gi_big_op | rw [if_pos (And.intro hj0 hj1)] | (refine uponIn_yield hYY ?_; intro bb W3 hc; simp only [Act.put, List.setIfInBounds_toArray, List.set_cons_succ, List.set_cons_zero]))
      all_goals
        (try simp only [Act.put])
        have hKp : (∀ c, B c → W3.heap[c]? = W1.heap[c]?) → W1.heap.size ≤ W3.heap.size → KpG B W W3 := fun h1 h2 => hK.trans ⟨fun c hc => (h1 c hc).trans (hWB c hc), by omega⟩
        clear u1 u2 u3' u4' u5 u6 u7 u8 q1 q2 q3 q4 q5 q6 q7 q8 z1 z2 z3 z4 z5 z6 z7 z8 hYY hY hbox hwr hj hj0 hj1 hn0 hn2
        rcases hc with ⟨rfl, hJ3, hk3, hk4⟩ | ⟨rfl, hJx3⟩
        · gi_wp2
          go_roundw
          case rel => exact ⟨k + 1, by omega, by simp, hJ3, hKp hk3 hk4⟩
          case measure => simp [vInt]; omega
        · gi_wp2
          refine bodyPost_ret (results_none rfl _ _ _) rfl ?_
          exact ⟨⟨_, rfl⟩, .inr hJx3⟩
    · obtain rfl : k = xs.length := by omega
      gi_wp2
      go_end0
      exact ⟨⟨_, rfl⟩, .inl hJs⟩
end Go.Proofs.YtkccmpikeekceaaGreat
end
