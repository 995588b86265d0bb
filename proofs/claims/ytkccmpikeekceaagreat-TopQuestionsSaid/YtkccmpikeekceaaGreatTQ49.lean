/- ev: the loop function over the stretches of two pieces. -/
import Derived.BigRegionIn
import Derived.Test.YtkccmpikeekceaaGreatTQ47
import Derived.Test.YtkccmpikeekceaaGreatTQ48
import Derived.Test.YtkccmpikeekceaaGreatTQ23
import Derived.Test.YtkccmpikeekceaaGreatTQ24
import Derived.Test.YtkccmpikeekceaaGreatTQ25
import Derived.Test.YtkccmpikeekceaaGreatTQ26
import Derived.Test.YtkccmpikeekceaaGreatTQ27
import Derived.Test.YtkccmpikeekceaaGreatTQ28
import Derived.Test.YtkccmpikeekceaaGreatTQ29
import Derived.Test.YtkccmpikeekceaaGreatTQ30
import Derived.Test.YtkccmpikeekceaaGreatTQ31
import Derived.Test.YtkccmpikeekceaaGreatTQ32
import Derived.Test.YtkccmpikeekceaaGreatTQ33
import Derived.Test.YtkccmpikeekceaaGreatTQ34
import Derived.Test.YtkccmpikeekceaaGreatTQ35
import Derived.Test.YtkccmpikeekceaaGreatTQ36
import Derived.Test.YtkccmpikeekceaaGreatTQ37
import Derived.Test.YtkccmpikeekceaaGreatTQ38
import Derived.Test.YtkccmpikeekceaaGreatTQ39
import Derived.Test.YtkccmpikeekceaaGreatTQ40
import Derived.Test.YtkccmpikeekceaaGreatTQ41
import Derived.Test.YtkccmpikeekceaaGreatTQ42
import Derived.Test.YtkccmpikeekceaaGreatTQ43
import Derived.Test.YtkccmpikeekceaaGreatTQ46
import Derived.Test.YtkccmpikeekceaaGreatTQ13
/- ev: the loop function over the stretches of two pieces. -/
section
namespace Go.Proofs.YtkccmpikeekceaaGreat
open Go.RowKit Go.Own Go.Ev Go.BigFrame Go.Shelf
attribute [local go_sem] Oper.semAt_some
/-- A fit that is still to be found. -/
def fitV (i j k : Nat) : List Value := [.int .i64 0, .int .i64 1, .int .i64 i, .int .i64 j, .int .i64 k, .bool false, .slice none 0 0, .bool false, .slice none 0 0, .bool false, .slice none 0 0, .bool false, .slice none 0 0, .bool false, .slice none 0 0, .bool false, .slice none 0 0, .bool false, .slice none 0 0, .bool false, .slice none 0 0, .bool false, .slice none 0 0, .bool false, .slice none 0 0, .bool false, .slice none 0 0, .bool false, .slice none 0 0]
theorem flatMap_at {α β : Type} {f : α → List β} {c : Nat} : ∀ {l : List α}, (∀ x ∈ l, (f x).length = c) → ∀ {i : Nat} {x : α}, l[i]? = some x → ∀ {j : Nat} {y : β}, (f x)[j]? = some y → (l.flatMap f)[i * c + j]? = some y
  | [], _, i, x, h, _, _, _ => by simp at h
  | a :: l, hc, 0, x, h, j, y, hy => by
    simp at h; subst h
    rw [List.flatMap_cons, List.getElem?_append_left (by have := (List.getElem?_eq_some_iff.1 hy).1; omega)]
    simpa using hy
  | a :: l, hc, i + 1, x, h, j, y, hy => by
    have ha := hc a (by simp)
    rw [List.flatMap_cons, List.getElem?_append_right (by rw [ha, Nat.succ_mul]; omega), ha, show (i + 1) * c + j - c = i * c + j by rw [Nat.succ_mul]; omega]
    exact flatMap_at (fun x hx => hc x (by simp [hx])) (by simpa using h) hy
theorem flatMap_len {α β : Type} {f : α → List β} {c : Nat} : ∀ {l : List α}, (∀ x ∈ l, (f x).length = c) → (l.flatMap f).length = l.length * c
  | [], _ => by simp
  | a :: l, hc => by
    rw [List.flatMap_cons, List.length_append, flatMap_len (fun x hx => hc x (by simp [hx])), hc a (by simp), List.length_cons, Nat.succ_mul]; omega
theorem fits_len (n m : Nat) : (fitsN n m).length = n * (m * (min n m - 1)) := by
  unfold fitsN
  rw [flatMap_len (c := m * (min n m - 1)) (fun i _ => by rw [flatMap_len (c := min n m - 1) (fun j _ => by simp)]; simp)]
  simp
theorem fits_at {n m i j k : Nat} (hi : i < n) (hj : j < m) (hk : k + 1 < min n m) : (fitsN n m)[i * (m * (min n m - 1)) + (j * (min n m - 1) + k)]? = some (i, j, k + 1) := by
  unfold fitsN
  refine flatMap_at (c := m * (min n m - 1)) (fun i _ => by rw [flatMap_len (c := min n m - 1) (fun j _ => by simp)]; simp) (x := i) (by simp [hi]) ?_
  refine flatMap_at (c := min n m - 1) (fun j _ => by simp) (x := j) (by simp [hj]) ?_
  have : k < min n m - 1 := by omega
  simp [this]
set_option maxRecDepth 100000 in
set_option maxHeartbeats 2000000 in
theorem stretches1_in (n : Nat) (l : Nat) (b1 b2 o1 o2 : Nat) (q1 q2 : Option Addr) (m1 m2 p1 p2 : Nat) (hm1 : m1 < 1000000) (hm2 : m2 < 1000000) (B : Nat → Prop) (_hB : B b1 ∧ B b2)
    (J : Nat → World → Prop) (Jx : World → Prop) (W : World)
    (hJb : ∀ k A A', J k A → Below A.heap.size A A' → J k A')
    (hY : ∀ k x W1, J k W1 → ((fitsN m1 m2).map fun t => [Value.agg (fitV t.1 t.2.1 t.2.2).toArray])[k]? = some x → YieldAt Fence.wide n Tryz.prog l x.toArray W1 fun e W' => (e = .returned (.bool true) ∧ J (k + 1) W' ∧ (∀ c, B c → W'.heap[c]? = W1.heap[c]?) ∧ W1.heap.size ≤ W'.heap.size) ∨ (e = .returned (.bool false) ∧ Jx W'))
    (h1 : W.cell? ⟨b1, o1 + 2, none⟩ = some (.slice q1 m1 p1)) (h2 : W.cell? ⟨b2, o2 + 2, none⟩ = some (.slice q2 m2 p2))
    (h0 : J 0 W) :
    CallsIn Fence.wide (n + 1) Tryz.prog 76 #[.func (.yield l) #[] #[], .pointer (some ⟨b1, o1, none⟩), .pointer (some ⟨b2, o2, none⟩)] W fun e W' => (∃ v, e = .returned v) ∧ (J (fitsN m1 m2).length W' ∨ Jx W') := by
  refine callsIn_of_wp Tryz.func76 rfl trivial ?_ rfl
  simp only [Tryz.ntmps76, List.size_toArray, List.length_cons, List.length_nil, Nat.reduceAdd, Nat.reduceSub, Array.replicate_succ, Array.replicate_zero, List.push_toArray, List.append_toArray, List.nil_append, List.cons_append]
  gi_wp2
  gi_region
  have hJ1 : J 0 W.drew := hJb 0 W _ h0 ⟨rfl, rfl, rfl, Nat.le_refl _, fun _ _ => rfl⟩
  have hW1 : KpG B W W.drew := ⟨fun _ _ => rfl, Nat.le_refl _⟩
  generalize W.drew = W1 at *
  clear h1 h2
  gi_wp2
  gi_loopw [16] (fun v wr => ∃ i : Nat, i ≤ m1 ∧ v = .int .i64 i ∧ J (i * (m2 * (min m1 m2 - 1))) wr ∧ KpG B W wr)
    (fun v _ => m1 - (vInt v).toNat)
  case atStart => exact ⟨0, Nat.zero_le _, rfl, by rw [Nat.zero_mul]; exact hJ1, hW1⟩
  case round =>
    obtain ⟨i, hi, rfl, hJi, hKi⟩ := hrel
    by_cases hlt : i < m1
    · have hlt' : (i : Int) < (m1 : Int) := by omega
      gi_wp2
      gi_loopw [20] (fun v wr => ∃ j : Nat, j ≤ m2 ∧ v = .int .i64 j ∧ J (i * (m2 * (min m1 m2 - 1)) + j * (min m1 m2 - 1)) wr ∧ KpG B W wr)
        (fun v _ => m2 - (vInt v).toNat)
      case atStart => exact ⟨0, Nat.zero_le _, rfl, by rw [Nat.zero_mul]; exact hJi, hKi⟩
      case round =>
        obtain ⟨j, hj, rfl, hJj, hKj⟩ := hrel
        by_cases hltj : j < m2
        · have hltj' : (j : Int) < (m2 : Int) := by omega
          gi_wp2
          gi_loopw [8] (fun v wr => ∃ k : Nat, k ≤ min m1 m2 - 1 ∧ v = .int .i64 (k + 1 : Nat) ∧ J (i * (m2 * (min m1 m2 - 1)) + (j * (min m1 m2 - 1) + k)) wr ∧ KpG B W wr)
            (fun v _ => min m1 m2 - (vInt v).toNat)
          case atStart => exact ⟨0, Nat.zero_le _, rfl, hJj, hKj⟩
          case round =>
            obtain ⟨k, hk, rfl, hJk, hKk⟩ := hrel
            by_cases hltk : k + 1 < min m1 m2
            · have hk1 : ((k : Int) + 1) < (m1 : Int) := by omega
              have hk2 : ((k : Int) + 1) < (m2 : Int) := by omega
              obtain ⟨fn, tmps, assign, body, hyy, hR⟩ := hY _ _ wr hJk (by rw [List.getElem?_map, fits_at hlt hltj hltk]; rfl)
              simp only [fitV, Int.natCast_add, Int.natCast_one] at hyy
              have fin : ∀ {bb : Bool} {W3 : World}, (bb = true ∧ J (i * (m2 * (min m1 m2 - 1)) + (j * (min m1 m2 - 1) + k) + 1) W3 ∧ (∀ c, B c → W3.heap[c]? = wr.heap[c]?) ∧ wr.heap.size ≤ W3.heap.size) → ∃ k' : Nat, k' ≤ min m1 m2 - 1 ∧ Value.int .i64 ((k : Int) + 1 + 1) = .int .i64 (k' + 1 : Nat) ∧ J (i * (m2 * (min m1 m2 - 1)) + (j * (min m1 m2 - 1) + k')) W3 ∧ KpG B W W3 :=
                fun h => ⟨k + 1, by omega, by simp, h.2.1, hKk.trans h.2.2⟩
              gi_wp2
              all_goals
                refine hR.mono ?_
                rintro e W3 (⟨rfl, hJ3, hk3⟩ | ⟨rfl, hJx3⟩)
                · gi_wp2
                  go_roundw
                  case rel => exact fin ⟨(rfl : true = true), hJ3, hk3⟩
                  case measure => simp [vInt]; omega
                · gi_wp2
                  refine bodyPost_ret (results_none rfl _ _ _) rfl ?_
                  exact ⟨⟨_, rfl⟩, .inr hJx3⟩
            · have hltk' : ¬ ((k : Int) + 1) < min (m1 : Int) (m2 : Int) := by omega
              gi_wp2
              go_roundw
              case rel => exact ⟨j + 1, by omega, by simp, by
                have : k = min m1 m2 - 1 := by omega
                rw [← this]; rw [← this] at hJk; rw [Nat.succ_mul]; exact hJk, hKk⟩
              case measure => simp [vInt]; omega
        · obtain rfl : j = m2 := by omega
          gi_wp2
          go_roundw
          case rel => exact ⟨i + 1, by omega, by simp, by rw [Nat.succ_mul]; exact hJj, hKj⟩
          case measure => simp [vInt]; omega
    · obtain rfl : i = m1 := by omega
      gi_wp2
      go_end0
      exact ⟨⟨_, rfl⟩, .inl (by rw [fits_len]; exact hJi)⟩
end Go.Proofs.YtkccmpikeekceaaGreat
end
/- ev: the three functions that yield do as the evaluator is told. -/
section
namespace Go.Ev
open Go.RowKit Go.Own
theorem sim_cell {K : Mem} {g : Gh} {nx : Nat} {w : World} (h : Sim K g nx w) {b i : Nat} {l : List C} {x : C} (hl : K b = some l) (hi : l[i]? = some x) : ∃ v, w.cell? ⟨g.m b, i, none⟩ = some v ∧ RC g w x v ∧ x.lt nx := by
  obtain ⟨_, h2, _, cs, t, h4, _, h6⟩ := h.blk b l hl
  obtain ⟨v, h7, h8⟩ := h6 i x hi
  refine ⟨v, ?_, h8, h2 x (List.mem_of_getElem? hi)⟩
  unfold World.cell?
  simp only [h4]
  exact h7
theorem sim_at {s : S} {g : Gh} {w : World} (h : Sim s.H.get g s.nx w) {b i : Nat} {x : C} (hx : cellAt s b i = some x) : s.H.get b ≠ none ∧ ∃ v, w.cell? ⟨g.m b, i, none⟩ = some v ∧ RC g w x v ∧ x.lt s.nx := by
  unfold cellAt at hx
  split at hx
  · rename_i l hl; exact ⟨by rw [hl]; simp, sim_cell h hl hx⟩
  · cases hx
theorem take_at {l xs : List C} {off n : Nat} (h : takeAt l off n = some xs) : xs.length = n ∧ ∀ (i : Nat) (x : C), xs[i]? = some x → l[off + i]? = some x := by
  unfold takeAt at h
  split at h
  · rename_i hle
    injection h with h; subst h
    refine ⟨by simp; omega, fun i x hi => ?_⟩
    have hlt := (List.getElem?_eq_some_iff.1 hi).1
    have hlt2 : i < n := by simp at hlt; omega
    rw [List.getElem?_take_of_lt hlt2, List.getElem?_drop] at hi
    exact hi
  · cases h
theorem sim_list {K : Mem} {g : Gh} {nx : Nat} {w : World} (h : Sim K g nx w) {b : Nat} {l : List C} (hl : K b = some l) : ∀ {xs : List C} {off : Nat}, (∀ (i : Nat) (x : C), xs[i]? = some x → l[off + i]? = some x) →
    ∃ vs : List Value, All2 (RC g w) xs vs ∧ ∀ (i : Nat) (v : Value), vs[i]? = some v → w.cell? ⟨g.m b, off + i, none⟩ = some v
  | [], _, _ => ⟨[], trivial, fun i v hv => by simp at hv⟩
  | x :: xs, off, hx => by
    obtain ⟨v, h1, h2, _⟩ := sim_cell h hl (hx 0 x rfl)
    obtain ⟨vs, h3, h4⟩ := sim_list h hl (xs := xs) (off := off + 1) (fun i x hi => by have := hx (i + 1) x (by simpa using hi); rwa [show off + 1 + i = off + (i + 1) by omega])
    refine ⟨v :: vs, ⟨h2, h3⟩, fun i u hu => ?_⟩
    cases i with
    | zero => simp at hu; subst hu; exact h1
    | succ i => have := h4 i u (by simpa using hu); rwa [show off + 1 + i = off + (i + 1) by omega] at this
theorem list_lt {K : Mem} {g : Gh} {nx : Nat} {w : World} (h : Sim K g nx w) {b : Nat} {l : List C} (hl : K b = some l) {xs : List C} {off : Nat} (hx : ∀ (i : Nat) (x : C), xs[i]? = some x → l[off + i]? = some x) : ∀ x ∈ xs, x.lt nx := fun x hm => by
  obtain ⟨i, hi⟩ := List.getElem?_of_mem hm
  exact (sim_cell h hl (hx i x hi)).choose_spec.2.2
theorem rc_sl {g : Gh} {w : World} {c f n p u : Nat} {v : Value} (h : RC g w (.sl c f n p u) v) : ∃ p', v = .slice (some ⟨g.m c, f, none⟩) n p' := by
  obtain ⟨p', _, _, _, h⟩ := h
  exact ⟨p', h⟩
theorem slOk_rc {g : Gh} {w : World} {x : C} {v : Value} (h : slOk x = true) (hr : RC g w x v) : ∃ a n p, v = .slice a n p := by
  cases x <;> simp only [slOk] at h <;> first | cases h | skip
  case ns => exact ⟨_, _, _, hr⟩
  case dig n =>
    obtain ⟨_, ⟨_, h⟩ | ⟨_, c, off, cap, h, _⟩⟩ := hr
    · exact ⟨_, _, _, h⟩
    · exact ⟨_, _, _, h⟩
  case sl => obtain ⟨p', _, _, _, h⟩ := hr; exact ⟨_, _, _, h⟩
end Go.Ev
namespace Go.Proofs.YtkccmpikeekceaaGreat
open Go.RowKit Go.Own Go.Ev
theorem vecOk_rc {g : Gh} {w : World} {x : List C} {v : List Value} (h : vecOk x = true) (hr : All2 (RC g w) x v) : IsVec v := by
  unfold vecOk at h
  split at h
  · rename_i b1 a1 b2 a2 b3 a3 b4 a4
    simp only [Bool.and_eq_true] at h
    match v, hr with
    | [v1, v2, v3, v4, v5, v6, v7, v8], ⟨h1, h2, h3, h4, h5, h6, h7, h8, _⟩ =>
      obtain ⟨p1, n1, m1, rfl⟩ := slOk_rc h.1.1.1 h2
      obtain ⟨p2, n2, m2, rfl⟩ := slOk_rc h.1.1.2 h4
      obtain ⟨p3, n3, m3, rfl⟩ := slOk_rc h.1.2 h6
      obtain ⟨p4, n4, m4, rfl⟩ := slOk_rc h.2 h8
      have e1 : v1 = .bool b1 := h1
      have e2 : v3 = .bool b2 := h3
      have e3 : v5 = .bool b3 := h5
      have e4 : v7 = .bool b4 := h7
      subst e1; subst e2; subst e3; subst e4
      exact ⟨_, _, _, _, _, _, _, _, _, _, _, _, _, _, _, _, rfl⟩
  · cases h
theorem sim_vecs {K : Mem} {g : Gh} {nx : Nat} {w : World} (h : Sim K g nx w) {b : Nat} {l : List C} (hl : K b = some l) : ∀ {n off : Nat} {xs : List (List C)}, vecs l off n = some xs →
    xs.length = n ∧ (∀ x ∈ xs, ∀ c ∈ x, c.lt nx) ∧ ∃ vs : List (List Value), All2 (All2 (RC g w)) xs vs ∧ ∀ (i : Nat) (v : List Value), vs[i]? = some v → IsVec v ∧ ∀ (j : Nat) (u : Value), v[j]? = some u → w.cell? ⟨g.m b, off + i * 8 + j, none⟩ = some u
  | 0, off, xs, hx => by injection hx with hx; subst hx; exact ⟨rfl, fun x hx => (by cases hx), [], trivial, fun i v hv => by simp at hv⟩
  | n + 1, off, xs, hx => by
    unfold vecs at hx
    split at hx
    · rename_i x r h1 h2
      split at hx
      · rename_i hok
        injection hx with hx; subst hx
        obtain ⟨h3, h4⟩ := take_at h1
        obtain ⟨v, h5, h6⟩ := sim_list h hl h4
        obtain ⟨h7, h8, vs, h9, h10⟩ := sim_vecs h hl h2
        refine ⟨by simp [h7], fun y hy => ?_, v :: vs, ⟨h5, h9⟩, fun i u hu => ?_⟩
        · rcases List.mem_cons.1 hy with rfl | hy
          · exact list_lt h hl h4
          · exact h8 y hy
        · cases i with
          | zero => simp at hu; subst hu; exact ⟨vecOk_rc hok h5, fun j u hj => by simpa using h6 j u hj⟩
          | succ i =>
            obtain ⟨q1, q2⟩ := h10 i u (by simpa using hu)
            refine ⟨q1, fun j z hj => ?_⟩
            have := q2 j z hj
            rwa [show off + 8 + i * 8 + j = off + (i + 1) * 8 + j by omega] at this
      · cases hx
    · cases hx
theorem kept {w W : World} {B : Nat → Prop} (h : ∀ c, B c → W.heap[c]? = w.heap[c]?) {b i : Nat} {v : Value} (hb : B b) (hv : w.cell? ⟨b, i, none⟩ = some v) : W.cell? ⟨b, i, none⟩ = some v := (World.cell?_of_block (h b hb)).trans hv
theorem pairs_ok {g : Gh} {w : World} : ∀ {xs ys : List C} {us vs : List Value}, All2 (RC g w) xs us → All2 (RC g w) ys vs → All2 (All2 (RA g w)) (pairsL xs ys) (us.flatMap fun x => vs.map fun y => [x, y])
  | [], _, [], _, _, _ => trivial
  | x :: xs, ys, u :: us, vs, h, h2 => by
    simp only [pairsL, List.flatMap_cons]
    have hx : RA g w (vc x) u := h.1
    refine All2.append ?_ (pairs_ok h.2 h2)
    have : ∀ {ys : List C} {vs : List Value}, All2 (RC g w) ys vs → All2 (All2 (RA g w)) (ys.map fun y => [vc x, vc y]) (vs.map fun y => [u, y]) := by
      intro ys
      induction ys with
      | nil => intro vs h; cases vs with
        | nil => trivial
        | cons => exact h.elim
      | cons y ys ih => intro vs h; cases vs with
        | nil => exact h.elim
        | cons v vs => exact ⟨⟨hx, h.1, trivial⟩, ih h.2⟩
    exact this h2
  | [], _, _ :: _, _, h, _ => h.elim
  | _ :: _, _, [], _, h, _ => h.elim
variable {g : Gh} {s : S} {w : World}
theorem itPairs_ok {b1 o1 b2 o2 : Nat} {xs : List (List A)} {pn : List Nat} (h : itPairs s b1 b2 (cellAt s b1 o1) (cellAt s b2 o2) = some (xs, pn)) (hs : Sim s.H.get g s.nx w) :
    (∀ b ∈ pn, s.H.get b ≠ none) ∧ (∀ x ∈ xs, ∀ a ∈ x, a.lt s.nx) ∧
    ∃ vals : List (List Value), All2 (All2 (RA g w)) xs vals ∧ SeqG Tryz.prog 207 ([(b1, o1), (b2, o2)].map (capV g)).toArray vals (fun c => ∃ b ∈ pn, g.m b = c) w := by
  unfold itPairs at h
  split at h
  · rename_i c1 f1 n1 p1 u1 c2 f2 n2 p2 u2 e1 e2
    split at h
    · rename_i l1 l2 e3 e4
      split at h
      · rename_i xs' ys' e5 e6
        split at h
        · rename_i hle
          injection h with h; injection h with h h'; subst h; subst h'
          obtain ⟨a1, v1, a2, a3, _⟩ := sim_at hs e1
          obtain ⟨a4, v2, a5, a6, _⟩ := sim_at hs e2
          obtain ⟨q1, rfl⟩ := rc_sl a3
          obtain ⟨q2, rfl⟩ := rc_sl a6
          obtain ⟨k1, k2⟩ := take_at e5
          obtain ⟨k3, k4⟩ := take_at e6
          obtain ⟨us, z1, z2⟩ := sim_list hs e3 k2
          obtain ⟨vs, z3, z4⟩ := sim_list hs e4 k4
          have hu : us.length = n1 := by rw [← z1.length]; exact k1
          have hv : vs.length = n2 := by rw [← z3.length]; exact k3
          refine ⟨?_, ?_, _, pairs_ok z1 z3, ?_⟩
          · intro b hb
            simp only [List.mem_cons, List.not_mem_nil, or_false] at hb
            rcases hb with rfl | rfl | rfl | rfl
            · exact a1
            · exact a4
            · rw [e3]; simp
            · rw [e4]; simp
          · intro x hx a ha
            simp only [pairsL, List.mem_flatMap, List.mem_map] at hx
            obtain ⟨y, hy, z, hz, rfl⟩ := hx
            simp only [List.mem_cons, List.not_mem_nil, or_false] at ha
            rcases ha with rfl | rfl
            · exact list_lt hs e3 k2 y hy
            · exact list_lt hs e4 k4 z hz
          · intro n l J Jx W hW hsz hJ hJx hY h0
            have hB : ∀ b ∈ [b1, b2, c1, c2], ∃ b' ∈ [b1, b2, c1, c2], g.m b' = g.m b := fun b hb => ⟨b, hb, rfl⟩
            exact pairs1_in n l (g.m b1) o1 (g.m b2) o2 (g.m c1) f1 q1 (g.m c2) f2 q2 us vs (by omega) (by omega) _ ⟨hB b1 (by simp), hB b2 (by simp), hB c1 (by simp), hB c2 (by simp)⟩ J Jx W hY
              (by rw [hu]; exact kept hW (hB b1 (by simp)) a2) (by rw [hv]; exact kept hW (hB b2 (by simp)) a5)
              (fun i x hx => kept hW (hB c1 (by simp)) (z2 i x hx)) (fun i x hx => kept hW (hB c2 (by simp)) (z4 i x hx)) h0
        · cases h
      · cases h
    · cases h
  · cases h
theorem sides_ok {xs : List (List C)} {us : List (List Value)} (h : All2 (All2 (RC g w)) xs us) : All2 (All2 (RA g w)) ((List.range xs.length).map (sideA xs)) ((List.range us.length).map (sideOf us)) := by
  have hl := h.length
  refine All2.of_get (by simp [hl]) fun i a b ha hb => ?_
  have hi : i < xs.length := by have := (List.getElem?_eq_some_iff.1 ha).1; simpa using this
  rw [List.getElem?_map, List.getElem?_range hi] at ha
  rw [List.getElem?_map, List.getElem?_range (by omega)] at hb
  simp only [Option.map_some, Option.some.injEq] at ha hb
  subst ha; subst hb
  have key : ∀ j : Nat, All2 (RC g w) ((xs[j]?).getD []) ((us[j]?).getD []) := by
    intro j
    cases e : xs[j]? with
    | none =>
      have : us[j]? = none := by rw [List.getElem?_eq_none_iff] at e ⊢; omega
      rw [this]; trivial
    | some x =>
      obtain ⟨u, h1, h2⟩ := h.get e
      rw [h1]; exact h2
  refine ⟨⟨_, rfl, key i⟩, ⟨_, ?_, key ((i + 1) % xs.length)⟩, trivial⟩
  rw [hl]
theorem itSides_ok {b1 o1 : Nat} {xs : List (List A)} {pn : List Nat} (h : itSides s b1 (cellAt s b1 o1) = some (xs, pn)) (hs : Sim s.H.get g s.nx w) :
    (∀ b ∈ pn, s.H.get b ≠ none) ∧ (∀ x ∈ xs, ∀ a ∈ x, a.lt s.nx) ∧
    ∃ vals : List (List Value), All2 (All2 (RA g w)) xs vals ∧ SeqG Tryz.prog 262 ([(b1, o1)].map (capV g)).toArray vals (fun c => ∃ b ∈ pn, g.m b = c) w := by
  unfold itSides at h
  split at h
  · rename_i c1 f1 n1 p1 u1 e1
    split at h
    · rename_i l1 e3
      split at h
      · rename_i xs' e5
        split at h
        · rename_i hle
          injection h with h; injection h with h h'; subst h; subst h'
          obtain ⟨a1, v1, a2, a3, _⟩ := sim_at hs e1
          obtain ⟨q1, rfl⟩ := rc_sl a3
          obtain ⟨k1, k2, us, z1, z2⟩ := sim_vecs hs e3 e5
          have hu : us.length = n1 := by rw [← z1.length]; exact k1
          have hpn : ∀ b ∈ [b1, c1], s.H.get b ≠ none := by
            intro b hb
            simp only [List.mem_cons, List.not_mem_nil, or_false] at hb
            rcases hb with rfl | rfl
            · exact a1
            · rw [e3]; simp
          refine ⟨hpn, ?_, _, sides_ok z1, ?_⟩
          · intro x hx a ha
            simp only [List.mem_map] at hx
            obtain ⟨k, _, rfl⟩ := hx
            have key : ∀ (j : Nat) (c : C), c ∈ (xs'[j]?).getD [] → c.lt s.nx := by
              intro j c hc
              cases e : xs'[j]? with
              | none => rw [e] at hc; cases hc
              | some x => rw [e] at hc; exact k2 x (List.mem_of_getElem? e) c hc
            simp only [sideA, List.mem_cons, List.not_mem_nil, or_false] at ha
            rcases ha with rfl | rfl
            · exact key _
            · exact key _
          · intro n l J Jx W hW hsz hJ hJx hY h0
            have hB : ∀ b ∈ [b1, c1], ∃ b' ∈ [b1, c1], g.m b' = g.m b := fun b hb => ⟨b, hb, rfl⟩
            have := sides1_in n l (g.m b1) o1 (g.m c1) f1 q1 us (by omega) (fun c => ∃ b ∈ [b1, c1], g.m b = c) ⟨hB b1 (by simp), hB c1 (by simp)⟩ J Jx W hJ hY
              (by rw [hu]; exact kept hW (hB b1 (by simp)) a2)
              (fun c ⟨b, hb, e⟩ => by
                cases hl : s.H.get b with
                | none => exact absurd hl (hpn b hb)
                | some l =>
                  obtain ⟨_, _, _, cs, t, h4, _⟩ := hs.blk b l hl
                  rw [← e]
                  exact Nat.lt_of_lt_of_le (Array.getElem?_eq_some_iff.1 h4).1 hsz)
              (fun i x hx => ⟨(z2 i x hx).1, fun j u hj => kept hW (hB c1 (by simp)) ((z2 i x hx).2 j u hj)⟩) h0
            refine this.mono ?_
            rintro e W' ⟨h1, h2⟩
            exact ⟨h1, by simpa using h2⟩
        · cases h
      · cases h
    · cases h
  · cases h
theorem fits_ok (l : List (Nat × Nat × Nat)) : All2 (All2 (RA g w)) (l.map fun t => [A.v (.agg (fitC t.1 t.2.1 t.2.2))]) (l.map fun t => [Value.agg (fitV t.1 t.2.1 t.2.2).toArray]) := by
  induction l with
  | nil => trivial
  | cons t l ih =>
    refine ⟨⟨⟨_, rfl, ?_⟩, trivial⟩, ih⟩
    simp only [fitC, fitV, All2, RC, and_self]
theorem itFits_ok {b1 o1 b2 o2 : Nat} {xs : List (List A)} {pn : List Nat} (h : itFits b1 b2 (cellAt s b1 (o1 + 2)) (cellAt s b2 (o2 + 2)) = some (xs, pn)) (hs : Sim s.H.get g s.nx w) :
    (∀ b ∈ pn, s.H.get b ≠ none) ∧ (∀ x ∈ xs, ∀ a ∈ x, a.lt s.nx) ∧
    ∃ vals : List (List Value), All2 (All2 (RA g w)) xs vals ∧ SeqG Tryz.prog 76 ([(b1, o1), (b2, o2)].map (capV g)).toArray vals (fun c => ∃ b ∈ pn, g.m b = c) w := by
  unfold itFits at h
  split at h
  · rename_i c1 f1 n1 p1 u1 c2 f2 n2 p2 u2 e1 e2
    split at h
    · rename_i hle
      injection h with h; injection h with h h'; subst h; subst h'
      obtain ⟨a1, v1, a2, a3, _⟩ := sim_at hs e1
      obtain ⟨a4, v2, a5, a6, _⟩ := sim_at hs e2
      obtain ⟨q1, rfl⟩ := rc_sl a3
      obtain ⟨q2, rfl⟩ := rc_sl a6
      refine ⟨?_, ?_, _, fits_ok _, ?_⟩
      · intro b hb
        simp only [List.mem_cons, List.not_mem_nil, or_false] at hb
        rcases hb with rfl | rfl
        · exact a1
        · exact a4
      · intro x hx a ha
        simp only [List.mem_map] at hx
        obtain ⟨t, _, rfl⟩ := hx
        simp only [List.mem_cons, List.not_mem_nil, or_false] at ha
        subst ha
        intro c hc
        simp only [fitC, List.mem_cons, List.not_mem_nil, or_false] at hc
        rcases hc with rfl | rfl | rfl | rfl | rfl | rfl | rfl | rfl | rfl | rfl | rfl | rfl | rfl | rfl | rfl | rfl | rfl | rfl | rfl | rfl | rfl | rfl | rfl | rfl | rfl | rfl | rfl | rfl | rfl <;> trivial
      · intro n l J Jx W hW hsz hJ hJx hY h0
        have hB : ∀ b ∈ [b1, b2], ∃ b' ∈ [b1, b2], g.m b' = g.m b := fun b hb => ⟨b, hb, rfl⟩
        have := stretches1_in n l (g.m b1) (g.m b2) o1 o2 (some ⟨g.m c1, f1, none⟩) (some ⟨g.m c2, f2, none⟩) n1 n2 q1 q2 (by omega) (by omega) (fun c => ∃ b ∈ [b1, b2], g.m b = c) ⟨hB b1 (by simp), hB b2 (by simp)⟩ J Jx W hJ hY
          (kept hW (hB b1 (by simp)) a2) (kept hW (hB b2 (by simp)) a5) h0
        refine this.mono ?_
        rintro e W' ⟨h1, h2⟩
        exact ⟨h1, by simpa using h2⟩
    · cases h
  · cases h
/-- THE LAW: the loop functions do as the evaluator is told. -/
theorem iter_ok {K : Known} (hK : K.iter = itr) : IterOK Tryz.prog K := by
  intro f caps s xs pn g w h hs _
  rw [hK] at h
  unfold itr at h
  split at h
  · rename_i b1 o1 b2 o2
    split at h
    · rename_i hf
      obtain rfl := Nat.eq_of_beq_eq_true hf
      exact ⟨fun args w => run_callFunc (by kernel_rfl), itPairs_ok h hs⟩
    · split at h
      · rename_i hf
        obtain rfl := Nat.eq_of_beq_eq_true hf
        exact ⟨fun args w => run_callFunc (by kernel_rfl), itFits_ok h hs⟩
      · cases h
  · rename_i b1 o1
    split at h
    · rename_i hf
      obtain rfl := Nat.eq_of_beq_eq_true hf
      exact ⟨fun args w => run_callFunc (by kernel_rfl), itSides_ok h hs⟩
    · cases h
  · cases h
end Go.Proofs.YtkccmpikeekceaaGreat
end
/- top: alive() returns true (run by the evaluator in the kernel). -/
section
namespace Go.Proofs.YtkccmpikeekceaaGreat
open Go.RowKit Go.Own Go.Ev Go.Ev.Tb
theorem follows_ok : Tryz.prog.follows .mixedOrders = true := by kernel_rfl
theorem kb_ok : KnownOK Tryz.prog (KB Tryz.prog) where
  code := fun f xf h => by
    simp only [KB] at h
    cases hf : Tryz.prog.funcs[f]? with
    | none => rw [hf] at h; cases h
    | some fn => rw [hf] at h; exact ⟨fn, rfl, h⟩
  prim := fun f gf h => by cases h
  spec := fun f args s r s' h => by cases h
theorem with_iter {K : Known} (h : KnownOK Tryz.prog K) (it : FuncId → List (Nat × Nat) → S → Option (List (List A) × List Nat)) : KnownOK Tryz.prog { K with iter := it } := ⟨h.code, h.prim, h.spec⟩
theorem app_ok {α : Type} {p : α → Prop} {a b : List α} (ha : ∀ e ∈ a, p e) (hb : ∀ e ∈ b, p e) : ∀ e ∈ a ++ b, p e := fun e he => (List.mem_append.1 he).elim (ha e) (hb e)
theorem inL_mem {f : Nat} : ∀ {l : List Nat}, inL l f = true → f ∈ l
  | [], h => by cases h
  | x :: l, h => by
    unfold inL at h
    split at h
    · rename_i hx; rw [Nat.eq_of_beq_eq_true hx]; exact List.mem_cons_self ..
    · exact List.mem_cons_of_mem _ (inL_mem h)
noncomputable def known (f : Nat) : Bool := match Tryz.prog.funcs[f]? with | some fn => !(fn.name == "runtime.NumGoroutine") && !fn.body.isNone | none => false
theorem known_ok {f : Nat} (h : known f = true) : (Tryz.prog.funcs[f]?).map (fun fn => (fn.name == "runtime.NumGoroutine", fn.body.isNone)) = some (false, false) := by
  unfold known at h
  split at h
  · rename_i fn hf
    obtain ⟨h1, h2⟩ := Bool.and_eq_true _ _ ▸ h
    rw [hf]
    simp only [Option.map_some, Option.some.injEq, Prod.mk.injEq]
    exact ⟨by simpa using h1, by simpa using h2⟩
  · cases h
theorem lv_ok {lv : List Nat} (h : lv.all known = true) : ∀ f, inL lv f = true → (Tryz.prog.funcs[f]?).map (fun fn => (fn.name == "runtime.NumGoroutine", fn.body.isNone)) = some (false, false) := fun f hf => known_ok (List.all_eq_true.1 h f (inL_mem hf))
theorem tA_ent : ∀ e ∈ tA, EntOK Tryz.prog e := (app_ok (chkEs_ok follows_ok kb_ok (range_none (fun _ _ _ => rfl)) tA1_ok) (app_ok (chkEs_ok follows_ok kb_ok (range_none (fun _ _ _ => rfl)) tA2_ok) (app_ok (chkEs_ok follows_ok kb_ok (range_none (fun _ _ _ => rfl)) tA3_ok) (app_ok (chkEs_ok follows_ok kb_ok (range_none (fun _ _ _ => rfl)) tA4_ok) (chkEs_ok follows_ok kb_ok (range_none (fun _ _ _ => rfl)) tA5_ok)))))
theorem k1_ok : KnownOK Tryz.prog (Tb.K1 Tryz.prog) := tab_ok (lv := lvA) (l := tA) kb_ok tA_ent (lv_ok (lv := lvA) (by decide +kernel))
theorem tB_ent : ∀ e ∈ tB, EntOK Tryz.prog e := (app_ok (chkEs_ok follows_ok k1_ok (range_none (fun _ _ _ => rfl)) tB1_ok) (app_ok (chkEs_ok follows_ok k1_ok (range_none (fun _ _ _ => rfl)) tB2_ok) (app_ok (chkEs_ok follows_ok k1_ok (range_none (fun _ _ _ => rfl)) tB3_ok) (chkEs_ok follows_ok k1_ok (range_none (fun _ _ _ => rfl)) tB4_ok))))
theorem k2_ok : KnownOK Tryz.prog (Tb.K2 Tryz.prog) := tab_ok (lv := lvB) (l := tB) k1_ok tB_ent (lv_ok (lv := lvB) (by decide +kernel))
theorem tC_ent : ∀ e ∈ tC, EntOK Tryz.prog e := (app_ok (chkEs_ok follows_ok k2_ok (range_none (fun _ _ _ => rfl)) tC1_ok) (chkEs_ok follows_ok k2_ok (range_none (fun _ _ _ => rfl)) tC2_ok))
theorem k3_ok : KnownOK Tryz.prog (Tb.K3 Tryz.prog) := have h : KnownOK Tryz.prog ((Tb.K2 Tryz.prog).tab lvC tabC) := tab_ok (lv := lvC) (l := tC) k2_ok tC_ent (lv_ok (lv := lvC) (by decide +kernel))
   with_iter h itr
theorem r3_ok : RangeOK Tryz.prog (Tb.K3 Tryz.prog) := range_ok (iter_ok rfl)
theorem r4_ok : RangeOK Tryz.prog (Tb.K4 Tryz.prog) := range_ok (iter_ok rfl)
theorem r5_ok : RangeOK Tryz.prog (Tb.K5 Tryz.prog) := range_ok (iter_ok rfl)
theorem m_ok {l : List Ent} (h : l.all (fun e => chkM Tryz.prog (Tb.K3 Tryz.prog) 100000 mem n0 e && okE n0 e) = true) : ∀ e ∈ l, chkM Tryz.prog (Tb.K3 Tryz.prog) 100000 mem n0 e = true ∧ okE n0 e = true := fun e he => (Bool.and_eq_true _ _).mp (List.all_eq_true.1 h e he)
theorem mE_ok : ∀ e ∈ mE, chkM Tryz.prog (Tb.K3 Tryz.prog) 100000 mem n0 e = true ∧ okE n0 e = true := (app_ok (m_ok m1_ok) (app_ok (m_ok m2_ok) (app_ok (m_ok m3_ok) (app_ok (m_ok m4_ok) (app_ok (m_ok m5_ok) (app_ok (m_ok m6_ok) (app_ok (m_ok m7_ok) (app_ok (m_ok m8_ok) (app_ok (m_ok m9_ok) (m_ok m10_ok))))))))))
theorem sp4_ok : CallOK Tryz.prog (specM mem n0 mE) := specM_ok follows_ok k3_ok r3_ok (by decide +kernel) mE_ok
theorem k4_ok : KnownOK Tryz.prog (Tb.K4 Tryz.prog) := spec_ok k3_ok sp4_ok
theorem k5_ok : KnownOK Tryz.prog (Tb.K5 Tryz.prog) := spec_ok k3_ok (specS_ok follows_ok k4_ok r4_ok eF_ok sp4_ok)
theorem ev_trueT {K : Known} (hK : KnownOK Tryz.prog K) (hR : RangeOK Tryz.prog K) {k f n : Nat} (he : isT (evCall K (evC Tryz.prog K k) f [] { H := .e, nx := n, lg := [] }) = true) (w : World) : Calls Tryz.prog f #[] w fun e w' => e = .returned (.bool true) ∧ Below w.heap.size w w' := by
  refine ev_true follows_ok hK hR (k := k) (f := f) (n := n) ?_ w
  generalize evCall K (evC Tryz.prog K k) f [] { H := .e, nx := n, lg := [] } = r at he
  unfold isT at he
  split at he <;> first | rfl | cases he
/-- THE LAW: alive() returns true, and turns nothing that was there. -/
theorem alive_any (w : World) : Calls Tryz.prog 6 #[] w fun e w' => e = .returned (.bool true) ∧ Below w.heap.size w w' := ev_trueT k5_ok r5_ok (k := 100000) (n := 0) alive_ok w
end Go.Proofs.YtkccmpikeekceaaGreat
end
/- top: the law TopQuestions, walked. -/
section
namespace Go.Top
open Go.Theory
theorem mod9' (z : Int) : -9 < z.tmod 9 ∧ z.tmod 9 < 9 := by
  have h1 := Int.natAbs_tmod z 9
  have h2 : z.natAbs % (9 : Int).natAbs < 9 := Nat.mod_lt _ (by decide)
  omega
theorem mod9 (z : Int) : ∃ x : Nat, (z.tmod 9 + 9).tmod 9 = x ∧ x < 9 := by
  have h2 := mod9' z
  have h3 := Int.tmod_nonneg (a := z.tmod 9 + 9) 9 (by omega)
  have h4 := mod9' (z.tmod 9 + 9)
  exact ⟨((z.tmod 9 + 9).tmod 9).toNat, by omega, by omega⟩
theorem thy_chk {n may : Nat} {l : List Int} {s : Nat} (hs : theory n may l s) : (chk n may l s).2 = 0 := by
  unfold chk
  rw [if_neg (by have := hs.2.1; omega), if_pos]
  rw [List.all_eq_true]
  intro x hx
  unfold founds needs at hx
  obtain ⟨j, hj, rfl⟩ := List.mem_map.1 hx
  obtain ⟨h1, h2⟩ := List.mem_filter.1 hj
  rw [Bool.and_eq_true] at h2
  exact decide_eq_true (hs.2.2 j (List.mem_range.1 h1) h2.1 (by simpa using h2.2))
theorem thy_nodup (n may : Nat) (c : List Int) : (theories n may c).Nodup := List.nodup_range.filter _
theorem thy_lt {n may : Nat} {c : List Int} {z : Nat} (h : z ∈ theories n may c) : z < 2 ^ n := List.mem_range.1 (List.mem_filter.1 h).1
theorem thy_is {n may : Nat} {c : List Int} {z : Nat} (h : z ∈ theories n may c) : theory n may c z := of_decide_eq_true (List.mem_filter.1 h).2
theorem asked {ws cs : List Nat} (hp : Proper ws cs) : (List.range ws.length).length ≤ 1 ∨ 1 ≤ cs.length := by
  rw [List.length_range]
  rcases Nat.lt_or_ge ws.length 2 with h | h
  · exact .inl (by omega)
  · right
    obtain ⟨k, hk, _⟩ := apart_of hp 0 (List.mem_range.2 (by omega)) 1 (List.mem_range.2 (by omega)) (by decide)
    omega
end Go.Top
namespace Go.Proofs.YtkccmpikeekceaaGreat
open Go.RowKit Go.Own Go.Theory Go.BigFrame Go.Shelf Go.Top
/-- What the walk down a tree knows. -/
structure DnQ (ws cs : List Nat) (i c : Nat) (at' paid step : Value) (u : World) : Prop where
  out : ∃ (T : Tr) (L : List Nat) (c' b p q : Nat), at' = nd b ∧ paid = .int .i64 (p : Int) ∧ step = .int .i64 (q : Int) ∧ TrAt tT u (nd b) T ∧ folT ws cs T L = some c' ∧ i ∈ L ∧ L.length + q ≤ 8 ∧ p + c' ≤ c
set_option maxRecDepth 100000 in
set_option maxHeartbeats 12800000 in
theorem topQuestions_any (l costs m : List Int) (sl sc sm : Option Addr) (cl cc cm : Nat) (hr : ∀ z ∈ l, rg z) (hrc : ∀ z ∈ costs, rg z) (hrm : ∀ z ∈ m, rg z) (hl : l.length ≤ maxLen) (hc : costs.length ≤ maxLen) (hm : m.length ≤ maxLen) (w : World)
    (h1 : Sl w 1 (.slice sl l.length cl) l.length (l.map (.int .i64))) (h2 : Sl w 1 (.slice sc costs.length cc) costs.length (costs.map (.int .i64))) (h3 : Sl w 1 (.slice sm m.length cm) m.length (m.map (.int .i64))) :
    Calls Tryz.prog 3 #[.slice sl l.length cl, .slice sc costs.length cc, .slice sm m.length cm] w fun e w' => e = .returned (.bool true) ∧ Below w.heap.size w w' := by
  have hbase := base_any l sl cl hr w h1 hl
  have hcl : (costs.length : Int) ≤ 9223372036854775807 := by unfold maxLen at hc; omega
  have HBASE := Lib.hid hbase; clear hbase h1
  have H2 := Lib.hid h2; clear h2
  have H3 := Lib.hid h3; clear h3
  have HRC := Lib.hid hrc; clear hrc
  have HRM := Lib.hid hrm; clear hrm hr
  have HM := Lib.hid hm; clear hm hl hc
  go_enter Tryz.func3, Tryz.ntmps3
  go_wp2_with (fail)
  refine HBASE.out.mono ?_
  clear HBASE
  rintro e w1 ⟨n, may, C, v, rfl, hv, hn8, hC10, hown, hb1⟩
  obtain ⟨sC, kC, rfl, _⟩ := own_slice hown
  have hSC := Sl.of_owns hown
  obtain ⟨hn16, hmay, _, hCr⟩ := valid_nat hv
  have hp256 : 2 ^ n ≤ 256 := Nat.pow_le_pow_right (n := 2) (by omega) hn8
  have hrC : ∀ z ∈ C, rg z := fun z hz => by have := hCr z hz; unfold rg; omega
  have hall := pall_any n may C sC kC hv w1 hSC hrC
  have hne := theories_ne hv
  have htl : (theories n may C).length ≤ 256 := by
    unfold theories
    have := theoriesTo_len n may C (2 ^ n)
    omega
  have hTn := thy_nodup n may C
  have hTl : ∀ z ∈ theories n may C, z < 2 ^ n := fun z hz => thy_lt hz
  have hTi : ∀ z ∈ theories n may C, theory n may C z := fun z hz => thy_is hz
  obtain ⟨ws, hws⟩ : ∃ ws, ws = theories n may C := ⟨_, rfl⟩
  rw [← hws] at hall hne htl hTn
  simp only [← hws] at hTl hTi
  have hpos := List.length_pos_iff.2 hne
  have HALL := Lib.hid hall; clear hall hws hown
  have HSC := Lib.hid hSC; clear hSC
  have HV := Lib.hid hv; clear hv
  have HRCC := Lib.hid hrC; clear hrC hCr
  have HTN := Lib.hid hTn; clear hTn hne
  have HTL := Lib.hid hTl; clear hTl
  have HTI := Lib.hid hTi; clear hTi
  have HP2 := Lib.hid (show 2 ^ n ≤ 256 ∧ may < 2 ^ n from ⟨hp256, hmay⟩); clear hp256 hmay
  have HB1 := Lib.hid hb1; clear hb1
  go_wp2_with (fail)
  refine HALL.out.mono ?_
  clear HALL
  rintro e w2 ⟨v, rfl, hown, hb2⟩
  obtain ⟨sa, ca, rfl, _⟩ := own_slice hown
  have hSW := Sl.of_owns hown
  have bw2 := HB1.out.trans (hb2.mono HB1.out.size)
  have HSW := Lib.hid hSW; clear hSW hown
  have HSC2 := Lib.hid (HSC.out.below hb2); clear hb2
  have HB2 := Lib.hid bw2; clear bw2
  have e1 : ((ws.length : Int) == 0) = false := beq_eq_false_iff_ne.2 (by omega)
  have e2 : ((ws.length : Int) = 0) = False := eq_false (by omega)
  go_wp2
  go_loopw [12, 13] (fun v c wr => ∃ (i : Nat) (K : List Nat), i ≤ n ∧ c = .int .i64 i ∧ K.length = i ∧ (∀ z ∈ K, 1 ≤ z ∧ z ≤ 1024) ∧ wr.ownsRow w2.heap.size 3 1 v i (nvs K) ∧ Below w2.heap.size w2 wr) (fun _ c _ => n - (vInt c).toNat)
  case atStart => exact ⟨0, [], Nat.zero_le _, rfl, rfl, fun z h => absurd h (by simp), World.ownsRow_nil _ _ _ _, Below.refl _ _⟩
  case round =>
    obtain ⟨i, K, hi, rfl, hKl, hKr, how, hbr⟩ := hrel
    by_cases hin : i < n
    · have hin' : (i : Int) < n := by omega
      have hi8 : (i : Int) < 8 := by omega
      have hbsz := hbr.size
      have HKR := Lib.hid hKr; clear hKr
      have hstep : ∀ (x : Nat) (v' : Value) (w' : World), 1 ≤ x → x ≤ 1024 → w'.ownsRow w2.heap.size 3 1 v' (i + 1) (nvs K ++ [.int .i64 (x : Int)]) → Below w2.heap.size w2 w' → ∃ (i' : Nat) (K' : List Nat), i' ≤ n ∧ Value.int .i64 ((i : Int) + 1) = .int .i64 i' ∧ K'.length = i' ∧ (∀ z ∈ K', 1 ≤ z ∧ z ≤ 1024) ∧ w'.ownsRow w2.heap.size 3 1 v' i' (nvs K') ∧ Below w2.heap.size w2 w' := fun x v' w' hx1 hx2 ho hb =>
        ⟨i + 1, K ++ [x], hin, by go_num, by rw [List.length_append, hKl]; rfl, fun z hz => by
          rcases List.mem_append.1 hz with hz | hz
          · exact HKR.out z hz
          · rw [List.mem_singleton] at hz; subst hz; exact ⟨hx1, hx2⟩, by simp only [nvs, List.map_append]; exact ho, hb⟩
      have HST := Lib.hid hstep; clear hstep hKl
      by_cases hic : i < costs.length
      · have hic' : (i : Int) < costs.length := by omega
        obtain ⟨z, hz⟩ : ∃ z, z = costs[i] := ⟨_, rfl⟩
        obtain ⟨g, o, rfl, _, _, hCc, hg⟩ := sl_at (H2.out.below (HB2.out.trans (hbr.mono HB2.out.size))) (by omega)
        have cz : wr.cell? ⟨g, o + i, none⟩ = some (.int .i64 z) := hCc i _ (by simp [hic, hz])
        have hzr : rg z := by rw [hz]; exact HRC.out _ (List.getElem_mem _)
        have hm9 := mod9' z
        obtain ⟨x, hx, hx9⟩ := mod9 z
        unfold rg at hzr
        obtain ⟨y, hy⟩ : ∃ y, y = z.tmod 9 := ⟨_, rfl⟩
        rw [← hy] at hm9 hx
        have hyz : z.tmod 9 = y := hy.symm
        obtain ⟨hm91, hm92⟩ := hm9
        clear hy hz hCc
        -- one more cost
        have HOW := how.alloc (.cells #[.int .i64 (1 + (x : Int))] 3)
        go_wp2_with (refine wpList_append_sl rfl _ _ 22 rfl w2.heap.size 3 (.int .i64 0) 1 8 hTintT infoIntT rfl (by decide) _ i _ rfl HOW _ 1 [.int .i64 (1 + (x : Int))] rfl (sl_new _ _ _ 1 rfl (by decide)) (by intro u hu; simp at hu; rw [hu]; rfl) (by unfold maxLen; omega) (by omega) (by simp; omega) ?_)
        intro v' w' h8 h9
        have hb9 : Below w2.heap.size w2 w' := grown_below (hbr.trans ((alloc_below _ _).mono hbsz)) HOW h9 (by simp; omega)
        have hfin := HST.out (1 + x) v' w' (by omega) (by omega) (by rw [show ((1 + x : Nat) : Int) = 1 + (x : Int) by omega]; exact h8) hb9
        have HF := Lib.hid hfin; clear hfin h8 h9 hb9
        go_wp2
        go_roundw
        case rel => exact HF.out
        case measure => simp [vInt]; omega
      · have hic' : ((i : Int) < costs.length) = False := eq_false (by omega)
        have HOW := how.alloc (.cells #[.int .i64 (1)] 3)
        go_wp2_with (refine wpList_append_sl rfl _ _ 22 rfl w2.heap.size 3 (.int .i64 0) 1 8 hTintT infoIntT rfl (by decide) _ i _ rfl HOW _ 1 [.int .i64 (1)] rfl (sl_new _ _ _ 1 rfl (by decide)) (by intro u hu; simp at hu; rw [hu]; rfl) (by unfold maxLen; omega) (by omega) (by simp; omega) ?_)
        intro v' w' h8 h9
        have hb9 : Below w2.heap.size w2 w' := grown_below (hbr.trans ((alloc_below _ _).mono hbsz)) HOW h9 (by simp; omega)
        have hfin := HST.out (1) v' w' (by omega) (by omega) (by rw [show ((1 : Nat) : Int) = 1 by omega]; exact h8) hb9
        have HF := Lib.hid hfin; clear hfin h8 h9 hb9
        go_wp2
        go_roundw
        case rel => exact HF.out
        case measure => simp [vInt]; omega
    · have hin' : ((i : Int) < n) = False := eq_false (by omega)
      subst hKl
      have hKn : K.length = n := by omega
      obtain ⟨sK, kK, rfl, _⟩ := own_slice how
      have hSK := Sl.of_owns how
      have bwr := HB2.out.trans (hbr.mono HB2.out.size)
      have HSW2 := Lib.hid (HSW.out.below hbr)
      have HSC3 := Lib.hid (HSC2.out.below hbr)
      have HSK := Lib.hid hSK
      have HB3 := Lib.hid bwr; clear bwr hbr how hSK
      have hKn' : (n : Int) = K.length := by omega
      have HKN := Lib.hid hKn; clear hKn' hKn
      by_cases hbig : 8 < ws.length
      · have hB := best_big ws K sa sK ca kK hbig (by omega) wr
        have hbig' : (8 : Int) < ws.length := by omega
        have HBB := Lib.hid hB; clear hB hKr
        go_wp2_with (fail)
        refine HBB.out.mono ?_
        rintro e w4 ⟨rfl, hb4⟩
        have bw4 := HB3.out.trans (hb4.mono HB3.out.size)
        have hal := alive_any w4
        clear hb4
        go_wp2_with (fail)
        refine hal.mono ?_
        clear hal
        rintro e w5 ⟨rfl, hb5⟩
        have bw5 := bw4.trans (hb5.mono bw4.size)
        clear bw4 hb5
        go_wp2
        go_ret
        exact ⟨rfl, bw5⟩
      · have hp : Proper ws K := ⟨hpos, by omega, by have := HKN.out; omega, fun z hz => by rw [HKN.out]; exact HTL.out z hz, HTN.out, hKr⟩
        have hbig' : ((8 : Int) < ws.length) = False := eq_false (by omega)
        have hn8' : ((8 : Int) < n) = False := eq_false (by omega)
        have hB := best_any ws K sa sK ca kK hp wr HSW2.out HSK.out
        have HBB := Lib.hid hB; clear hB
        go_wp2_with (fail)
        refine HBB.out.mono ?_
        clear HBB
        rintro e w4 ⟨t, c, b, hbq, rfl, hT4, hb4⟩
        have hfol : folT ws K t (List.range ws.length) = some c := by
          obtain ⟨t', c', q1, q2⟩ := BQ_some (l := List.range ws.length) hp (by intro e; have h := congrArg List.length e; rw [List.length_range, List.length_nil] at h; omega) List.nodup_range (fun i hi => List.mem_range.1 hi) (by rw [List.length_range]; exact hp.most)
          rw [hbq] at q1
          injection q1 with q1; injection q1 with q1 q3
          subst q1 q3
          exact q2
        have hlst := (best_ok ws K 8 (List.range ws.length) (by rw [List.length_range]; exact hp.most) (by intro e; have h := congrArg List.length e; rw [List.length_range, List.length_nil] at h; omega) List.nodup_range (apart_of hp)).least
        have hle := fol_le hp.cost hfol
        rw [List.length_range] at hle
        have hc8 : c ≤ 7168 := by have := hp.most; omega
        have bw4 := HB3.out.trans (hb4.mono HB3.out.size)
        have HSW4 := Lib.hid (HSW2.out.below hb4)
        have HSC4 := Lib.hid (HSC3.out.below hb4)
        have HSK4 := Lib.hid (HSK.out.below hb4)
        have HT4 := Lib.hid hT4; clear hT4
        have HB4 := Lib.hid bw4; clear bw4 hb4
        have HP := Lib.hid hp; clear hp hKr
        have HFO := Lib.hid hfol; clear hfol
        have HLS := Lib.hid (fun u d h => hlst t c u d hbq h); clear hlst hbq hle
        have hws8 : ws.length ≤ 8 := by omega
        clear hbig hin hi HSW HSC2 HB2 HSW2 HSC3 HSK HB3
        go_wp2
        go_loopw [18] (fun v wi => ∃ i : Nat, i ≤ ws.length ∧ v = .int .i64 i ∧ Below w4.heap.size w4 wi) (fun v _ => ws.length - (vInt v).toNat)
        case atStart => exact ⟨0, Nat.zero_le _, rfl, Below.refl _ _⟩
        case round =>
          obtain ⟨i, hi, rfl, hbr⟩ := hrel
          have HBR := Lib.hid hbr; clear hbr
          have HTr := Lib.hid (HT4.out.below HBR.out)
          by_cases hil : i < ws.length
          · have hil' : (i : Int) < ws.length := by omega
            obtain ⟨wo, rfl⟩ : ∃ wo : World, wo = wr := ⟨_, rfl⟩
            obtain ⟨gW, oW, rfl, _, _, hCW, hgW⟩ := sl_at (HSW4.out.below HBR.out) (by omega)
            obtain ⟨s, hs⟩ : ∃ s, s = ws[i] := ⟨_, rfl⟩
            have hcs : ∀ U, Below wo.heap.size wo U → U.cell? ⟨gW, oW + i, none⟩ = some (.int .i64 (s : Int)) := fun U hU => (hU.cell (p := ⟨gW, oW + i, none⟩) hgW).trans (hCW i _ (nvs_at hil hs))
            have hs256 : s < 256 := by rw [hs]; exact HP.out.small _ (List.getElem_mem _)
            have hthy : theory n may C s := HTI.out s (by rw [hs]; exact List.getElem_mem _)
            have hqs : ∀ k, hasQ ws k i = s.testBit k := fun k => by unfold hasQ; rw [List.getD_eq_getElem?_getD, List.getElem?_eq_getElem hil, hs]; rfl
            have HCS := Lib.hid hcs; clear hcs hCW
            have HTH := Lib.hid hthy; clear hthy
            have HQS := Lib.hid hqs; clear hqs hs
            have hD0 : DnQ ws K i c (nd b) (.int .i64 ((0 : Nat) : Int)) (.int .i64 ((0 : Nat) : Int)) wo := ⟨t, List.range ws.length, c, b, 0, 0, rfl, rfl, rfl, HTr.out, HFO.out, List.mem_range.2 hil, by rw [List.length_range]; omega, by omega⟩
            have HD0 := Lib.hid hD0; clear hD0
            go_wp2
            go_loopw [19, 20, 21] (fun va vp vs wi => DnQ ws K i c va vp vs wi ∧ Below wo.heap.size wo wi) (fun _ _ vs _ => 8 - (vInt vs).toNat)
            case atStart => exact ⟨HD0.out, Below.refl _ _⟩
            case round =>
              obtain ⟨⟨T, L, c', b', p, q, rfl, rfl, rfl, hTT, hfT, hiL, hLq, hpc⟩, hbw⟩ := hrel
              cases T with
              | leaf j =>
                obtain ⟨rfl, rfl⟩ := fol_leaf hfT
                obtain rfl : i = j := by simpa using hiL
                obtain ⟨b2, e, hBl⟩ := hTT
                obtain rfl := nd_inj e
                simp only [List.length_cons, List.length_nil] at hLq
                have q8 : (q : Int) < 8 := by omega
                have pc1 : ((c : Int) < (p : Int)) = False := eq_false (by omega)
                have d0 := hBl.cell (i := 0) rfl
                have d3 := hBl.cell (i := 3) rfl
                have dz := HCS.out wr hbw
                have bw9 := HBR.out.trans (hbw.mono HBR.out.size)
                have hck := pcheck_any n may s C sC kC HV.out (by omega) HTH.out.1 wr (HSC4.out.below bw9) HRCC.out
                have hc0 := thy_chk HTH.out
                rw [hc0] at hck
                have HCK := Lib.hid hck; clear hck hc0 hBl hfT hiL e
                have HBW9 := Lib.hid bw9; clear bw9 hbw
                have hii : ((i : Int) != (i : Int)) = false := by simp
                go_wp2_with (fail)
                refine HCK.out.mono ?_
                clear HCK
                rintro e w7 ⟨v, rfl, _, hb7⟩
                have bw10 := HBW9.out.trans (hb7.mono HBW9.out.size)
                have HBX := Lib.hid bw10; clear bw10 hb7 d0 d3 dz
                go_wp2
                go_roundw
                case rel => exact ⟨i + 1, by omega, by go_num, HBX.out⟩
                case measure => simp [vInt]; omega
              | node k x y =>
                obtain ⟨hLn, hk, cX, cY, fx, fy, hce⟩ := fol_node hfT
                obtain ⟨b2, pa, pc, e, hBl, hTx, hTy⟩ := hTT
                obtain rfl := nd_inj e
                have hsp := split_len ws k L
                have lx := fol_le HP.out.cost fx
                have ly := fol_le HP.out.cost fy
                have hqi := HQS.out k
                have hkK : (k : Int) < K.length := by omega
                have hk8 : k < 8 := by have := HP.out.ask; omega
                have q8 : (q : Int) < 8 := by omega
                obtain ⟨gC, oC, rfl, _, _, hCC, hgC⟩ := sl_at (HSK4.out.below (HBR.out.trans (hbw.mono HBR.out.size))) (by omega)
                have dc : wr.cell? ⟨gC, oC + k, none⟩ = some (.int .i64 ((K.getD k 0 : Nat) : Int)) := hCC k _ (nvs_at hk (by rw [List.getD_eq_getElem?_getD, List.getElem?_eq_getElem hk]; rfl))
                have hckj : K.getD k 0 ≤ 1024 := by rw [List.getD_eq_getElem?_getD, List.getElem?_eq_getElem hk]; exact (HP.out.cost _ (List.getElem_mem _)).2
                obtain ⟨ck, hckd⟩ : ∃ ck, ck = K.getD k 0 := ⟨_, rfl⟩
                rw [← hckd] at dc hckj hce
                have d0 := hBl.cell (i := 0) rfl
                have d1 := hBl.cell (i := 1) rfl
                have d2 := hBl.cell (i := 2) rfl
                have dz := HCS.out wr hbw
                have hbit := eq1 (s := s) (k := k) (by omega)
                have hyes : s.testBit k = true → DnQ ws K i c (nd pc) (.int .i64 ((p : Int) + (ck : Int))) (.int .i64 ((q : Int) + 1)) wr := fun hb => ⟨y, yesL ws k L, cY, pc, p + ck, q + 1, rfl, by go_num, by go_num, hTy, fy, List.mem_filter.2 ⟨hiL, by rw [hqi]; exact hb⟩, by omega, by omega⟩
                have hno : s.testBit k = false → DnQ ws K i c (nd pa) (.int .i64 ((p : Int) + (ck : Int))) (.int .i64 ((q : Int) + 1)) wr := fun hb => ⟨x, noL ws k L, cX, pa, p + ck, q + 1, rfl, by go_num, by go_num, hTx, fx, List.mem_filter.2 ⟨hiL, by rw [hqi, hb]; rfl⟩, by omega, by omega⟩
                have hp8 : p ≤ 7168 := by omega
                obtain ⟨qb, hqb⟩ : ∃ qb, qb = s.testBit k := ⟨_, rfl⟩
                rw [← hqb] at hyes hno hbit
                have HYES := Lib.hid hyes; clear hyes
                have HNO := Lib.hid hno; clear hno
                have HBW := Lib.hid hbw; clear hbw hqb hqi hckd hCC hsp lx ly hce hLn hfT hiL fx fy e hTx hTy hpc hLq
                have HBL := Lib.hid hBl; clear hBl
                go_upto_region 28 with fail
                refine wp_region_quiet_lit (by kernel_rfl) (by kernel_rfl) ?_
                repeat (go_big_quiet_step (rfl))
                refine wpQuiet_nil ?_
                rintro _ ⟨nq, rfl⟩
                clear d0 d1 d2 dz dc
                obtain ⟨w6, hw6⟩ : ∃ w6, w6 = wr.drewN nq := ⟨_, rfl⟩
                have b6 : Below wr.heap.size wr w6 := by rw [hw6]; exact below_drewN (Below.refl _ _) nq
                rw [← hw6]
                clear hw6
                have d1 := (HBL.out.below b6 HBL.out.lt).cell (i := 1) rfl
                have d2 := (HBL.out.below b6 HBL.out.lt).cell (i := 2) rfl
                have HBW6 := Lib.hid (HBW.out.trans (b6.mono HBW.out.size))
                have hlow : ∀ a p s, DnQ ws K i c a p s wr → DnQ ws K i c a p s w6 := fun a p s ⟨T, L, c', b', p', q', h1, h2, h3, h4, h5⟩ => ⟨T, L, c', b', p', q', h1, h2, h3, h4.below b6, h5⟩
                have HLOW := Lib.hid hlow; clear hlow b6
                cases qb with
                | true =>
                  have HD := Lib.hid (HLOW.out _ _ _ (HYES.out rfl))
                  go_wp2
                  go_roundw
                  case rel => exact ⟨HD.out, HBW6.out⟩
                  case measure => simp [vInt]; omega
                | false =>
                  have HD := Lib.hid (HLOW.out _ _ _ (HNO.out rfl))
                  go_wp2
                  go_roundw
                  case rel => exact ⟨HD.out, HBW6.out⟩
                  case measure => simp [vInt]; omega
          · have hil' : ((i : Int) < ws.length) = False := eq_false (by omega)
            obtain ⟨ot, oc, hot, hof⟩ := other_ok ws K (fun a => (at3 m (a : Int) K.length).toNat) 8 (List.range ws.length) 0 (by rw [List.length_range]; exact hws8) (by intro e; have h := congrArg List.length e; rw [List.length_range, List.length_nil] at h; omega) List.nodup_range (apart_of HP.out)
            have hoc := HLS.out ot oc hof
            have holt := fol_le HP.out.cost hof
            have hcode := fol_code hof
            rw [List.length_range] at holt hcode
            have hosm := fol_small HP.out.ask hof (fun i hi => by have := List.mem_range.1 hi; omega)
            have hva := vall_any ws sa ca (by omega) wr
            have bwr := HB4.out.trans (HBR.out.mono HB4.out.size)
            have HVA := Lib.hid hva; clear hva
            have HCD := Lib.hid hcode; clear hcode
            have HBW := Lib.hid bwr; clear bwr
            have HOC := Lib.hid hoc; clear hoc
            have HOT := Lib.hid hot; clear hot
            have HOF := Lib.hid hof; clear hof
            have HOS := Lib.hid hosm; clear hosm
            go_wp2_with (fail)
            refine HVA.out.mono ?_
            clear HVA
            rintro e w5 ⟨v5, rfl, how5, hb5⟩
            obtain ⟨s5, k5, rfl, _⟩ := own_slice how5
            have S5 := Sl.of_owns how5
            have bw5 := HBR.out.trans (hb5.mono HBR.out.size)
            have bwa5 := HBW.out.trans (hb5.mono HBW.out.size)
            have hoa := other_any ws K m sa sK sm ca kK cm HP.out.small hws8 HP.out.ask HRM.out HM.out 8 (List.range ws.length) 0 oc ot s5 k5 w5 HOT.out HOF.out (fun i hi => List.mem_range.1 hi) (by rw [List.length_range]; exact hws8) (by omega) (asked HP.out) (HSW4.out.below bw5) (H3.out.below bwa5) (by rw [List.length_range]; exact S5)
            rw [List.length_range] at hoa
            have hoa : Calls Tryz.prog 10 #[.slice sa ws.length ca, .slice sK K.length kK, .slice s5 ws.length k5, .slice sm m.length cm, .int .i64 0] w5 fun e w' => OtQ w5 ot e w' := hoa
            have HOA := Lib.hid hoa; clear hoa S5 how5
            have HB5 := Lib.hid bw5; clear bw5
            have HBA5 := Lib.hid bwa5; clear bwa5 hb5
            go_wp2_with (fail)
            refine HOA.out.mono ?_
            clear HOA
            rintro e w6 ⟨⟨v6, rfl, how6⟩, hb6⟩
            obtain ⟨s6, k6, rfl, _⟩ := own_slice how6
            have S6 := Sl.of_owns how6
            have bw6 := HB5.out.trans (hb6.mono HB5.out.size)
            have bwa6 := HBA5.out.trans (hb6.mono HBA5.out.size)
            have hde := decode_any ot s6 k6 w6 HOS.out (by have := HCD.out; omega) S6
            have HDE := Lib.hid hde; clear hde S6 how6
            have HB6 := Lib.hid bw6; clear bw6
            have HBA6 := Lib.hid bwa6; clear bwa6 hb6
            go_wp2_with (fail)
            refine HDE.out.mono ?_
            clear HDE
            rintro e w7 ⟨b7, rfl, hT7, hb7⟩
            have bw7 := HB6.out.trans (hb7.mono HB6.out.size)
            have bwa7 := HBA6.out.trans (hb7.mono HBA6.out.size)
            have hqc := qcheck_any ws K sa sK ca kK HP.out ot oc b7 HOF.out w7 (HSW4.out.below bw7) (HSK4.out.below bw7) hT7
            have HQC := Lib.hid hqc; clear hqc hT7
            have HBA7 := Lib.hid bwa7; clear bwa7 bw7 hb7
            go_wp2_with (fail)
            refine HQC.out.mono ?_
            clear HQC
            rintro e w8 ⟨rfl, hb8⟩
            have bwa8 := HBA7.out.trans (hb8.mono HBA7.out.size)
            have hal := alive_any w8
            have HAL := Lib.hid hal; clear hal hb8
            have HBA8 := Lib.hid bwa8; clear bwa8
            have hge : (c : Int) ≤ (oc : Int) := by have := HOC.out; omega
            go_wp2_with (fail)
            refine HAL.out.mono ?_
            rintro e w9 ⟨rfl, hb9⟩
            have bwa9 := HBA8.out.trans (hb9.mono HBA8.out.size)
            go_wp2
            go_ret
            exact ⟨rfl, bwa9⟩
end Go.Proofs.YtkccmpikeekceaaGreat
end
