/- ev: operations of memory: append, copy, clear, calls. No program. -/
import Derived.Test.YtkccmpikeekceaaGreatTQ16
import Derived.Deep.Upon
import Derived.Deep.AppendSrc
import Derived.OrdersIn
import Derived.RangeFuncKeeps
/- ev: operations of memory: append, copy, clear, calls. No program. -/
section
namespace Go.Ev
open Go.RowKit Go.Own
variable {P : Program} {sl : Nat → Prop} {g : Gh} {w : World} {nx : Nat} {T : Tr A} {ρ : Operand → Value} {o : Oper} {s s' : S} {r : A}
/-- The cells of a slice. -/
theorem first_rel {K : Mem} (hs : Sim K g nx w) {H : Tr (List C)} (hH : K = H.get) {size m : Nat} {y : A} {v : Value} {new : List C} {st : S} (hst : st.H = H) (hl : lenA y = some m) (hf : firstCellsA size m y st = some new) (hr : RA g w y v) (hlt : y.lt nx) :
    ∃ vs, All2 (RC g w) new vs ∧ (∀ x ∈ new, x.lt nx) ∧ new.length = m * size ∧ ((∃ a c, v = .slice (some a) m c ∧ m ≤ c ∧ ∀ (j : Nat) (u : Value), vs[j]? = some u → w.cell? (a.add j) = some u) ∨ (v = .slice none 0 0 ∧ m = 0 ∧ vs = [])) := by
  unfold firstCellsA at hf
  split at hf
  · rename_i b off len cap u
    simp only [lenA] at hl
    injection hl with hl; subst hl
    obtain ⟨cap', ⟨h1, _⟩, _, _, h2⟩ := hr
    split at hf
    · rename_i h0
      injection hf with hf; subst hf
      exact ⟨[], trivial, fun x hx => (List.not_mem_nil hx).elim, by simp [h0], .inl ⟨_, _, h2, h1, fun j u hj => by simp at hj⟩⟩
    · split at hf
      · rename_i l hb
        unfold takeAt at hf
        split at hf
        · rename_i hfit
          injection hf with hf; subst hf
          rw [hst, ← hH] at hb
          obtain ⟨_, h3, _, cs, t, h4, h5, h6⟩ := hs.blk b l hb
          refine ⟨(cs.toList.drop off).take (len * size), ?_, fun x hx => h3 x (List.mem_of_mem_drop (List.mem_of_mem_take hx)), by simp; omega, .inl ⟨_, _, h2, h1, ?_⟩⟩
          · refine All2.of_get (by simp; omega) fun i x v hx hv => ?_
            have hi : i < len * size := by have := (List.getElem?_eq_some_iff.1 hx).1; simp at this; omega
            rw [List.getElem?_take_of_lt hi, List.getElem?_drop] at hx hv
            obtain ⟨u, h10, h11⟩ := h6 _ x hx
            have : u = v := by simp at hv; rw [h10] at hv; injection hv
            exact this ▸ h11
          · intro j u hj
            have hB : Blk w (g.m b) cs.toList t := by unfold Blk; rw [h4]
            have hi : j < len * size := by have := (List.getElem?_eq_some_iff.1 hj).1; simp at this; omega
            rw [List.getElem?_take_of_lt hi, List.getElem?_drop] at hj
            rw [Addr.add_lit]
            exact hB.cell hj
        · cases hf
      · cases hf
  · simp only [lenA] at hl
    injection hl with hl; subst hl
    split at hf
    · injection hf with hf; subst hf
      exact ⟨[], trivial, fun x hx => (List.not_mem_nil hx).elim, by simp, .inr ⟨hr, rfl, rfl⟩⟩
    · cases hf
  · rename_i d
    simp only [lenA] at hl
    injection hl with hl
    obtain ⟨_, ⟨h1, h2⟩ | ⟨h1, c, off, cap, h2, h3, _, _, _, h4⟩⟩ := hr
    · rw [if_pos h1] at hl
      subst hl
      rw [if_pos (by simp)] at hf
      injection hf with hf; subst hf
      exact ⟨[], trivial, fun x hx => (List.not_mem_nil hx).elim, by simp, .inr ⟨h2, rfl, rfl⟩⟩
    · rw [if_neg (by omega)] at hl
      subst hl
      split at hf
      · rename_i h0
        injection hf with hf; subst hf
        exact ⟨[], trivial, fun x hx => (List.not_mem_nil hx).elim, by simp [h0], .inl ⟨_, _, h2, h3, fun j u hj => by simp at hj⟩⟩
      · split at hf
        · rename_i hc
          injection hf with hf; subst hf
          refine ⟨[.int .i64 d], ⟨rfl, trivial⟩, fun x hx => ?_, by simp [hc.2.1], .inl ⟨_, _, h2, h3, fun j u hj => ?_⟩⟩
          · simp at hx; subst hx; trivial
          · cases j with
            | zero => simp at hj; subst hj; rw [Addr.add_lit]; exact h4
            | succ j => simp at hj
        · cases hf
  · cases hf
theorem src_rel {t' e' : TypeId} {size m : Nat} {v : Value} {new : List C} {vs : List Value} (hk : P.underlying t' = some (.slice e')) (h1 : All2 (RC g w) new vs) (h2 : new.length = m * size)
    (h3 : (∃ a c, v = .slice (some a) m c ∧ m ≤ c ∧ ∀ (j : Nat) (u : Value), vs[j]? = some u → w.cell? (a.add j) = some u) ∨ (v = .slice none 0 0 ∧ m = 0 ∧ vs = [])) : Src P size t' v m vs w := by
  rcases h3 with ⟨a, c, rfl, _, h4⟩ | ⟨rfl, rfl, rfl⟩
  · exact Src.ofSlice w hk a m c vs (by rw [← h1.length]; exact h2) h4 (all_one h1)
  · exact Src.ofNil w hk 0
theorem growBy_le (newLen : Nat) : ∀ (r c : Nat), Builtin.growBy newLen r c ≤ 2 ^ r * (c + 768)
  | 0, c => by simp [Builtin.growBy]
  | r + 1, c => by
    simp only [Builtin.growBy]
    split
    · have : 1 ≤ 2 ^ (r + 1) := Nat.one_le_two_pow
      have := Nat.mul_le_mul_right (c + 768) this
      omega
    · refine Nat.le_trans (growBy_le newLen r _) ?_
      rw [Nat.pow_succ, Nat.mul_assoc]
      exact Nat.mul_le_mul_left _ (by omega)
theorem nextcap_le {need old : Nat} (h1 : old < need) (h2 : need ≤ 1000000) : Builtin.nextslicecap need old ≤ 17000000 := by
  unfold Builtin.nextslicecap
  split
  · omega
  · split
    · omega
    · refine Nat.le_trans (growBy_le _ _ _) ?_
      have e : (2 : Nat) ^ 4 = 16 := rfl
      rw [e]
      have : old + 768 ≤ 1000768 := by omega
      exact Nat.le_trans (Nat.mul_le_mul_left 16 this) (by decide)
theorem run_append_room {t t' ty e : TypeId} {i : TypeInfo} (ht : P.underlying t = some (.slice e)) (hi : P.info? e = some i) {a : Addr} {sLen sCap n : Nat} {x : Value} {news : List Value} {w' : World} (hs : Src P i.size t' x n news w)
    (hroom : sLen + n ≤ sCap) (hst : (storeCells (a.add (sLen * i.size)) news 0).run P w = .ok () w') :
    (Builtin.append_ #[t, t'] ty #[.slice (some a) sLen sCap, x]).run P w = .ok (.slice (some a) (sLen + n) sCap) w' := by
  rcases hs.kind with ⟨e', hk⟩ | hk <;> simp [Builtin.append_, run_underlying ht, run_underlying hk, Go.sizeOf, typeInfo, hi, hs.len, hroom, hs.cells, hst]
theorem app_eq {t : TypeId} {n : Nat} (h : rdyApp P t = some n) : ∃ elem i zv z, P.underlying t = some (.slice elem) ∧ P.info? elem = some i ∧ i.zero = some zv ∧ i.size = n ∧ 0 < n ∧ i.bytes ≤ 1000000 ∧ zeroCells P elem = some z ∧ zv.cells.size = n := by
  unfold rdyApp at h
  split at h
  · rename_i elem hu
    split at h
    · rename_i m z h1 h2
      split at h
      · rename_i hc
        injection h with h; subst h
        obtain ⟨i, zv, h3, h4, h5, _⟩ := zero_rel (g := ⟨fun _ => 0, fun _ => False⟩) (w := default) h2
        refine ⟨elem, i, zv, z, hu, h3, h4, info_size h3 h1, hc.2.1, by simpa [h3] using hc.2.2, h2, ?_⟩
        have := h5.length; simp at this; omega
      · cases h
    · cases h
  · cases h
/-- The slice grows into a new row. -/
theorem good_grow {t t' ty elem : TypeId} {i : TypeInfo} {zv : Value} {n len cap' m : Nat} {base : Option Addr} {v : Value} {old new : List C} {os vs : List Value} {s0 : S} {g0 : Gh}
    (hst : StepS s g w s0 g0 w) (hs0 : Sim s.H.get g s.nx w) (hu : P.underlying t = some (.slice elem)) (hi : P.info? elem = some i) (hz : i.zero = some zv) (hsz : i.size = n) (hzc : zv.cells.size = n) (hby : i.bytes ≤ 1000000)
    (ho : All2 (RC g0 w) old os) (hn : All2 (RC g0 w) new vs) (hol : ∀ x ∈ old, x.lt s0.nx) (hnl : ∀ x ∈ new, x.lt s0.nx) (holen : old.length = len * n) (hnlen : new.length = m * n)
    (hfc : (Builtin.firstCells n len (.slice base len cap')).run P w.drew = .ok os.toArray w.drew) (hsrc : Src P n t' v m vs w) (hg : cap' < len + m) (hsm : len + m ≤ 1000000) :
    ∃ v' w', (Builtin.append_ #[t, t'] ty #[.slice base len cap', v]).run P w = .ok v' w' ∧ Good s g w (vc (.sl s0.nx 0 (len + m) (len + m) n)) (s0.new (old ++ new)) v' w' := by
  subst hsz
  have hfit : Builtin.nextslicecap (len + m) cap' * i.bytes ≤ 281474976710656 := by
    have := Nat.mul_le_mul (nextcap_le hg hsm) hby
    omega
  have hrun := run_append_grow_src (P := P) w t t' ty elem i zv hu hi hz base len cap' os hfc v m vs hsrc hg (by omega) hfit
  have hge := grownCap_ge w (len + m) cap' elem
  have hle := grownCap_le_maxLen w (len + m) cap' elem (by have := maxLen_ge; omega)
  generalize hG : grownCap w (len + m) cap' elem = G at hrun hge hle
  have hs1 : Sim s0.H.get g0 s0.nx w.drew := hst.1.sim.drew
  have hzl : (Builtin.zeroCells zv.cells (G - (len + m))).size = (G - (len + m)) * i.size := by simp [Builtin.zeroCells, hzc]
  have hol2 := ho.length
  have hnl2 := hn.length
  have hsize : ((os ++ vs).toArray ++ Builtin.zeroCells zv.cells (G - (len + m))).size = G * i.size := by
    simp only [Array.size_append, List.size_toArray, List.length_append, hzl]
    rw [← hol2, ← hnl2, holen, hnlen, ← Nat.add_mul, ← Nat.add_mul]
    congr 1; omega
  have hrel : ∀ (k : Nat) (x : C), (old ++ new)[k]? = some x → ∃ u, ((os ++ vs).toArray ++ Builtin.zeroCells zv.cells (G - (len + m)))[k]? = some u ∧ RC g0 w.drew x u := by
    intro k x hx
    obtain ⟨u, h1, h2⟩ := (ho.append hn).get hx
    refine ⟨u, ?_, rc_drew h2⟩
    rw [Array.getElem?_append_left (by simp; have := (List.getElem?_eq_some_iff.1 h1).1; simpa using this)]
    simpa using h1
  have hlt : ∀ x ∈ old ++ new, x.lt s0.nx := by
    intro x hx
    rcases List.mem_append.1 hx with h | h
    · exact hol x h
    · exact hnl x h
  have hstep := hs1.new_step (K' := (s0.new (old ++ new)).H.get) (W := fun b => b ∈ s0.lg) (t := elem) (l := old ++ new) (cs := (os ++ vs).toArray ++ Builtin.zeroCells zv.cells (G - (len + m))) hlt
    (by rw [hsize, List.length_append, holen, hnlen, ← Nat.add_mul]; exact Nat.mul_le_mul_right _ hge) hrel (fun b x hb => by
      rcases Tr.get_set _ _ _ _ _ _ (show (Tr.set depth s0.H s0.nx (some (old ++ new))).get b = some x from hb) with ⟨h1, h2⟩ | h
      · exact .inl ⟨h1, by injection h2 with h2; exact h2.symm⟩
      · exact .inr h)
  refine ⟨_, _, hrun, g0.new s0.nx w.drew, ⟨?_, hst.2⟩, ⟨G, ⟨hge, hge⟩, hle, ?_, ?_⟩, Nat.lt_succ_self _⟩
  · exact hst.1.trans hs0 ((drew_step hst.1.sim).trans hst.1.sim hstep (fun _ h => h)) (fun _ h => h)
  · have e : (g0.new s0.nx w.drew).m s0.nx = w.drew.heap.size := by simp [Gh.new]
    rw [e, bsz_new, hsize]; omega
  · have e : (g0.new s0.nx w.drew).m s0.nx = w.heap.size := by simp [Gh.new]
    rw [e]
theorem good_drop {s : S} (hs : Sim s.H.get g s.nx w) (b : Nat) : StepS s g w (s.drop b) g w := by
  refine ⟨hs.less_step fun k x hk => ?_, fun k hk => List.mem_cons_of_mem _ hk⟩
  rcases Tr.get_set _ _ _ _ _ _ (show (Tr.set depth s.H b none).get k = some x from hk) with ⟨_, h⟩ | h
  · cases h
  · exact h.2
/-- The slice grows where it lies, past what was seen of it. -/
theorem good_move {s : S} (hs : Sim s.H.get g s.nx w) {b : Nat} {l new : List C} {vs : List Value} (hb : s.H.get b = some l) (hx : All2 (RC g w) new vs) (hxl : ∀ x ∈ new, x.lt s.nx) (hf : l.length + new.length ≤ bsz w (g.m b)) :
    ∃ w', (storeCells ⟨g.m b, l.length, none⟩ vs 0).run P w = .ok () w' ∧ StepS s g w ((s.drop b).new (l ++ new)) (g.ren s.nx b) w' := by
  obtain ⟨h1, h2, h3, cs, t, h4, h5, h6⟩ := hs.blk b l hb
  have hlen := hx.length
  have hbz : bsz w (g.m b) = cs.size := by unfold bsz; rw [h4]
  rw [hbz] at hf
  have hst := run_storeCells_at P (g.m b) l.length t vs 0 cs w h4 (by omega) (all_one hx)
  simp only [Nat.add_zero] at hst
  refine ⟨_, hst, ?_, fun k hk => List.mem_cons_of_mem _ hk⟩
  have hcz : (cs.toList.take l.length ++ vs ++ cs.toList.drop (l.length + vs.length)).length = cs.size := by simp; omega
  have hp := hs.put_step (W := fun k => k ∈ ((s.drop b).new (l ++ new)).lg) (K' := fun k => if k = b then some (l ++ new) else s.H.get k) (l' := l ++ new) (cs := cs) (t := t) (t' := t) hb h4 (List.mem_cons_self ..) (setRow_heap w _ _ (cs.toList.take l.length ++ vs ++ cs.toList.drop (l.length + vs.length)).toArray t (0, 0) h4) oth_setRow
    (by simp at hcz ⊢; omega) (fun x hx2 => by
      rcases List.mem_append.1 hx2 with h | h
      · exact h2 x h
      · exact hxl x h) (by simp at hcz ⊢; omega) (fun i x hi => by
      simp only [List.getElem?_toArray, List.append_assoc]
      rcases Nat.lt_or_ge i l.length with h | h
      · rw [List.getElem?_append_left h] at hi
        rw [List.getElem?_append_left (by simp; omega), List.getElem?_take_of_lt h]
        obtain ⟨u, h7, h8⟩ := h6 i x hi
        exact ⟨u, by simpa using h7, h8⟩
      · rw [List.getElem?_append_right h] at hi
        have e1 : (cs.toList.take l.length).length = l.length := by simp; omega
        rw [List.getElem?_append_right (by omega), e1]
        obtain ⟨u, h7, h8⟩ := hx.get hi
        have := (List.getElem?_eq_some_iff.1 h7).1
        rw [List.getElem?_append_left this]
        exact ⟨u, h7, h8⟩) (fun b' x hx2 => by
      by_cases e : b' = b
      · rw [if_pos e] at hx2; injection hx2 with hx2; exact .inl ⟨e, hx2.symm⟩
      · rw [if_neg e] at hx2; exact .inr ⟨e, hx2⟩)
  refine hp.trans hs (hp.sim.ren_step (b := b) (l := l ++ new) (if_pos rfl) (List.mem_cons_self ..) fun b' x hx2 => ?_) (fun _ h => h)
  rcases Tr.get_set _ _ _ _ _ _ (show (Tr.set depth (s.drop b).H s.nx (some (l ++ new))).get b' = some x from hx2) with ⟨e1, e2⟩ | ⟨e1, e2⟩
  · exact .inl ⟨e1, by injection e2 with e2; exact e2.symm⟩
  · rcases Tr.get_set _ _ _ _ _ _ (show (Tr.set depth s.H b none).get b' = some x from e2) with ⟨_, h⟩ | ⟨e3, e4⟩
    · cases h
    · exact .inr ⟨e1, e3, by rw [if_neg e3]; exact e4⟩
end Go.Ev
end
/- ev: operations of memory, II: append, copy, clear, calls. No program. -/
section
namespace Go.Ev
open Go.RowKit Go.Own
variable {P : Program} {sl : Nat → Prop} {g : Gh} {w : World} {nx : Nat} {T : Tr A} {ρ : Operand → Value} {o : Oper} {s s' : S} {r : A}
theorem bind_some {α β : Type} {x : Option α} {f : α → Option β} {b : β} (h : x.bind f = some b) : ∃ a, x = some a ∧ f a = some b := by
  cases x with
  | none => cases h
  | some a => exact ⟨a, rfl, h⟩
theorem run_firstB {t t' : TypeId} {c : Call} {x y : Operand} (ho : o.op = .call c) (hc : c.callee = .builtin .append) (ha : c.args.toList = [x, y]) (ht : c.argTypes.toList = [t, t']) {v : Value} {w' : World}
    (hr : (Builtin.append_ #[t, t'] o.type #[ρ x, ρ y]).run P w = .ok v w') : (execOp ρ o).run P w = .ok (.value v) w' := by
  obtain ⟨callee, args, argTypes⟩ := c
  simp only at hc ha ht
  subst hc
  have e1 : args = #[x, y] := by rw [← Array.toList_inj]; simpa using ha
  have e2 : argTypes = #[t, t'] := by rw [← Array.toList_inj]; simpa using ht
  subst e1; subst e2
  simp [execOp, ho, resolve, invoke, builtin, hr]
theorem s_app {t t' e' : TypeId} {c : Call} {x y : Operand} {x' y' : O} {n : Nat} (ho : o.op = .call c) (hc : c.callee = .builtin .append) (ha : c.args.toList = [x, y]) (ht : c.argTypes.toList = [t, t'])
    (hap : rdyApp P t = some n) (hk : P.underlying t' = some (.slice e')) (hx : rdyO x = some x') (hy : rdyO y = some y') (he : kApp s n (opA T x') (opA T y') = some (r, s'))
    (hE : Env sl g w s.nx T ρ) (hl : ∀ t, t ∈ x'.slot ++ y'.slot → sl t) (hs : Sim s.H.get g s.nx w) : Own.Yields P o ρ w (Good s g w r s') := by
  obtain ⟨elem, i, zv, z, hu, hi, hz, hsz, hpos, hby, _, hzc⟩ := app_eq hap
  suffices h : ∃ v' w', (Builtin.append_ #[t, t'] o.type #[ρ x, ρ y]).run P w = .ok v' w' ∧ Good s g w r s' v' w' by
    obtain ⟨v', w', h1, h2⟩ := h
    exact yields_value (run_firstB ho hc ha ht h1) h2
  unfold kApp at he
  split at he
  · rename_i b off len cap u m a h0 h1 h2
    obtain ⟨hrx, hlx⟩ := hE.op hx (fun t ht => hl t (by simp [ht])) h0
    obtain ⟨hry, hly⟩ := hE.op hy (fun t ht => hl t (by simp [ht])) h2
    rw [h2] at h1
    have h1 : lenA a = some m := h1
    split at he
    · rename_i old new h3 h4
      split at he
      · rename_i hcc
        obtain ⟨rfl, hsm⟩ := hcc
        obtain ⟨os, c1, c2, c3, c4⟩ := first_rel hs rfl rfl rfl h3 hrx hlx
        obtain ⟨vs, d1, d2, d3, d4⟩ := first_rel hs rfl rfl h1 h4 hry hly
        have hsrc := src_rel hk d1 d3 d4
        obtain ⟨cap', ⟨k1, k2⟩, k3, k4, k5⟩ := hrx
        split at he
        · rename_i hm0
          obtain ⟨e1, rfl⟩ := mv_same he
          rw [h0] at e1; injection e1 with e1; subst e1
          subst hm0
          have hvs : vs = [] := by
            have := d1.length; rw [d3] at this; simp at this; exact List.length_eq_zero_iff.1 this.symm
          subst hvs
          rw [k5]
          exact ⟨_, _, run_append_nothing w t t' o.type elem i hu hi _ len cap' k1 (ρ y) (by rw [hsz]; exact hsrc), Good.same hs ⟨cap', ⟨k1, k2⟩, k3, k4, rfl⟩ hlx⟩
        · rename_i hm0
          unfold kAppSl at he
          split at he
          · rename_i l hb
            split at he
            · rename_i hroom
              split at he
              · rename_i hfit
                injection he with he; injection he with e1 e2; subst e1; subst e2
                have hfl : off + len * u + new.length ≤ l.length := by rw [d3]; rw [Nat.add_mul] at hfit; omega
                obtain ⟨w', h6, h7⟩ := Good.put (P := P) hs hb d1 d2 hfl
                rw [k5]
                refine ⟨_, _, run_append_room (P := P) (w' := w') hu hi (sLen := len) (sCap := cap') (n := m) (by rw [hsz]; exact hsrc) (by omega) ?_, g, h7, ⟨cap', ⟨by omega, k2⟩, k3, Nat.le_trans k4 (h7.1.bs _), rfl⟩, hlx⟩
                rw [Addr.add_lit, hsz]
                exact h6 0 _ rfl rfl
              · cases he
            · rename_i hroom
              split at he
              · rename_i hmv
                obtain ⟨rfl, hll⟩ := hmv
                injection he with he; injection he with e1 e2; subst e1; subst e2
                have hold : old = l := by
                  unfold firstCellsA at h3
                  simp only [vc] at h3
                  split at h3
                  · rename_i h9
                    injection h3 with h3; subst h3
                    rw [h9] at hll
                    exact (List.length_eq_zero_iff.1 hll).symm
                  · rw [hb] at h3
                    simp only [takeAt] at h3
                    rw [if_pos (by omega)] at h3
                    injection h3 with h3
                    rw [← h3, List.drop_zero, ← hll, List.take_length]
                subst hold
                rw [k5]
                rcases Nat.lt_or_ge cap' (len + m) with hg | hg
                · refine good_grow (s0 := s.drop b) (g0 := g) (good_drop hs b) hs hu hi hz hsz hzc hby c1 d1 c2 d2 hll d3 ?_ hsrc hg hsm
                  rcases c4 with ⟨a', cc, e, _, hcell⟩ | ⟨e, _, _⟩
                  · rw [k5] at e; injection e with e3 e4 e5; rw [e3]
                    exact run_firstCells_some w.drew u len a' len cap' os (by rw [← c1.length]; exact hll) (by simpa using hcell)
                  · rw [k5] at e; cases e
                · have hbs : old.length + new.length ≤ bsz w (g.m b) := by
                    have : (len + m) * u ≤ cap' * u := Nat.mul_le_mul_right _ hg
                    rw [Nat.add_mul] at this
                    rw [hll, d3]; omega
                  obtain ⟨w', h6, h7⟩ := good_move (P := P) hs hb d1 d2 hbs
                  have hmn : (g.ren s.nx b).m s.nx = g.m b := by simp [Gh.ren]
                  refine ⟨_, _, run_append_room (P := P) (w' := w') hu hi (sLen := len) (sCap := cap') (n := m) (by rw [hsz]; exact hsrc) hg ?_, _, h7, ⟨cap', ⟨by omega, by omega⟩, k3, ?_, by rw [hmn]⟩, Nat.lt_succ_self _⟩
                  · rw [Addr.add_lit, hsz, Nat.zero_add, ← hll]; exact h6
                  · rw [hmn]; exact Nat.le_trans k4 (h7.1.bs _)
              · cases he
          · cases he
      · cases he
    · cases he
  · rename_i m a h0 h1 h2
    obtain ⟨hrx, hlx⟩ := hE.op hx (fun t ht => hl t (by simp [ht])) h0
    obtain ⟨hry, hly⟩ := hE.op hy (fun t ht => hl t (by simp [ht])) h2
    rw [h2] at h1
    have h1 : lenA a = some m := h1
    have k5 : ρ x = .slice none 0 0 := hrx
    split at he
    · rename_i new h4
      obtain ⟨vs, d1, d2, d3, d4⟩ := first_rel hs rfl rfl h1 h4 hry hly
      have hsrc := src_rel hk d1 d3 d4
      split at he
      · rename_i hm0
        injection he with he; injection he with e1 e2; subst e1; subst e2
        subst hm0
        have hvs : vs = [] := by
          have := d1.length; rw [d3] at this; simp at this; exact List.length_eq_zero_iff.1 this.symm
        subst hvs
        rw [k5]
        exact ⟨_, _, run_append_nothing w t t' o.type elem i hu hi _ 0 0 (Nat.le_refl _) (ρ y) (by rw [hsz]; exact hsrc), Good.same hs rfl trivial⟩
      · rename_i hm0
        split at he
        · rename_i hsm
          injection he with he; injection he with e1 e2; subst e1; subst e2
          rw [k5]
          have := good_grow (P := P) (old := []) (os := []) (len := 0) (cap' := 0) (base := none) (s0 := s) (g0 := g) (t := t) (t' := t') (ty := o.type) (v := ρ y) ⟨hs.rfl_step _, fun _ h => h⟩ hs hu hi hz hsz hzc hby trivial d1 (fun x hx => (List.not_mem_nil hx).elim) d2 (by simp) d3
            (run_firstCells_none w.drew n 0 0 0) hsrc (by omega) (by omega)
          simpa using this
        · cases he
    · cases he
  · cases he
theorem s_clr {t elem : TypeId} {c : Call} {x : Operand} {x' : O} {z : List C} (ho : o.op = .call c) (hc : c.callee = .builtin .clear) (ha : c.args.toList = [x]) (ht : c.argTypes[0]? = some t)
    (hu : P.underlying t = some (.slice elem)) (hz : zeroCells P elem = some z) (hx : rdyO x = some x') (he : kClr s z (opA T x') = some (r, s'))
    (hE : Env sl g w s.nx T ρ) (hl : ∀ t ∈ x'.slot, sl t) (hs : Sim s.H.get g s.nx w) : Own.Yields P o ρ w (Good s g w r s') := by
  obtain ⟨callee, args, argTypes⟩ := c
  simp only at hc ha ht
  subst hc
  have e1 : args = #[x] := by rw [← Array.toList_inj]; simpa using ha
  subst e1
  obtain ⟨it, zv, h3, h4, h5, h6⟩ := zero_rel (g := g) (w := w) hz
  unfold kClr at he
  split at he
  · rename_i b off len cap u h0
    obtain ⟨⟨cap', k1, k3, k4, k5⟩, hlx⟩ := hE.op hx hl h0
    split at he
    · rename_i hl0
      subst hl0
      injection he with he; injection he with e1 e2; subst e1; subst e2
      refine yields_value (v := .tuple #[]) (w' := w) ?_ (Good.same hs ⟨[], rfl, trivial⟩ (fun x hx => by cases hx))
      simp [execOp, ho, resolve, invoke, builtin, Builtin.clear_, ht, run_underlying hu, k5]
    · rename_i hl0
      split at he
      · rename_i l hb
        split at he
        · rename_i hcc
          obtain ⟨rfl, hfit⟩ := hcc
          injection he with he; injection he with e1 e2; subst e1; subst e2
          have hrel := rep_rel h5 len
          obtain ⟨w', h8, h9⟩ := Good.put (P := P) hs hb hrel (rep_lt (n := len) fun x hx => h6 x hx _) (off := off) (by rw [flat_len]; exact hfit)
          refine yields_value (v := .tuple #[]) (w' := w') ?_ ⟨g, h9, ⟨[], rfl, trivial⟩, fun x hx => by cases hx⟩
          have h10 : (storeCells ⟨g.m b, off, none⟩ (Builtin.zeroCells zv.cells len).toList).run P w = .ok () w' := h8 0 off rfl rfl
          obtain ⟨q, rfl⟩ : ∃ q, len = q + 1 := ⟨len - 1, by omega⟩
          simp [execOp, ho, resolve, invoke, builtin, Builtin.clear_, Sem.run_bind, ht, run_underlying hu, k5, run_zero h3 h4, h10]
        · cases he
      · cases he
  · rename_i h0
    obtain ⟨k5, _⟩ := hE.op hx hl h0
    injection he with he; injection he with e1 e2; subst e1; subst e2
    refine yields_value (v := .tuple #[]) (w' := w) ?_ (Good.same hs ⟨[], rfl, trivial⟩ (fun x hx => by cases hx))
    simp [execOp, ho, resolve, invoke, builtin, Builtin.clear_, ht, run_underlying hu, show ρ x = _ from k5]
  · cases he
theorem s_cpy {t : TypeId} {c : Call} {x y : Operand} {x' y' : O} {n : Nat} (ho : o.op = .call c) (hc : c.callee = .builtin .copy) (ha : c.args.toList = [x, y]) (ht : c.argTypes[0]? = some t)
    (hap : rdySlice P t = some n) (hx : rdyO x = some x') (hy : rdyO y = some y') (he : kCpy s n (opA T x') (opA T y') = some (r, s'))
    (hE : Env sl g w s.nx T ρ) (hl : ∀ t, t ∈ x'.slot ++ y'.slot → sl t) (hs : Sim s.H.get g s.nx w) : Own.Yields P o ρ w (Good s g w r s') := by
  obtain ⟨callee, args, argTypes⟩ := c
  simp only at hc ha ht
  subst hc
  have e1 : args = #[x, y] := by rw [← Array.toList_inj]; simpa using ha
  subst e1
  obtain ⟨elem, hu, hn⟩ := rdySlice_eq hap
  unfold kCpy at he
  split at he
  · rename_i b off len cap u a m h0 h2 h1
    obtain ⟨⟨cap', k1, k3, k4, k5⟩, hlx⟩ := hE.op hx (fun t ht => hl t (by simp [ht])) h0
    obtain ⟨hry, hly⟩ := hE.op hy (fun t ht => hl t (by simp [ht])) h2
    rw [h2] at h1
    have h1 : lenA a = some m := h1
    split at he
    · rename_i cs h4
      -- the first cells of the source
      have hsrc : ∃ vs, All2 (RC g w) cs vs ∧ (∀ x ∈ cs, x.lt s.nx) ∧ (Builtin.lenOf (ρ y)).run P w = .ok m w ∧ (Builtin.firstCells n (Nat.min m len) (ρ y)).run P w = .ok vs.toArray w := by
        unfold firstCellsA at h4
        split at h4
        · rename_i b2 off2 len2 cap2 u2 _
          simp only [lenA] at h1
          injection h1 with h1; subst h1
          obtain ⟨cap2', _, _, _, q⟩ := hry
          rw [q]
          split at h4
          · rename_i h0
            injection h4 with h4; subst h4
            exact ⟨[], trivial, fun x hx => (List.not_mem_nil hx).elim, rfl, run_firstCells_some w n _ _ _ _ [] (by simp [h0]) (by simp)⟩
          · split at h4
            · rename_i l hb
              unfold takeAt at h4
              split at h4
              · rename_i hfit
                injection h4 with h4; subst h4
                obtain ⟨_, h3, _, cs, t, h4, h5, h6⟩ := hs.blk b2 l hb
                have hlen2 : ((cs.toList.drop off2).take (Nat.min len2 len * n)).length = Nat.min len2 len * n := by simp; omega
                refine ⟨(cs.toList.drop off2).take (Nat.min len2 len * n), ?_, fun x hx => h3 x (List.mem_of_mem_drop (List.mem_of_mem_take hx)), rfl, run_firstCells_some w n _ _ _ _ _ hlen2 ?_⟩
                · refine All2.of_get (by rw [hlen2]; simp; omega) fun i x v hx hv => ?_
                  have hi : i < Nat.min len2 len * n := by have := (List.getElem?_eq_some_iff.1 hv).1; omega
                  rw [List.getElem?_take_of_lt hi, List.getElem?_drop] at hx hv
                  obtain ⟨u, h10, h11⟩ := h6 _ x hx
                  have : u = v := by simp at hv; rw [h10] at hv; injection hv
                  exact this ▸ h11
                · intro j u hj
                  have hB : Blk w (g.m b2) cs.toList t := by unfold Blk; rw [h4]
                  have hi : j < Nat.min len2 len * n := by have := (List.getElem?_eq_some_iff.1 hj).1; omega
                  rw [List.getElem?_take_of_lt hi, List.getElem?_drop] at hj
                  rw [Addr.add_lit]
                  exact hB.cell hj
              · cases h4
            · cases h4
        · simp only [lenA] at h1
          injection h1 with h1; subst h1
          rw [show ρ y = _ from hry]
          split at h4
          · injection h4 with h4; subst h4
            exact ⟨[], trivial, fun x hx => (List.not_mem_nil hx).elim, rfl, run_firstCells_none w n _ 0 0⟩
          · cases h4
        · rename_i d _
          simp only [lenA] at h1
          injection h1 with h1
          obtain ⟨_, ⟨p1, p2⟩ | ⟨p1, c, off, cap2, p2, p3, _, _, _, p4⟩⟩ := hry
          · rw [if_pos p1] at h1
            subst h1
            rw [if_pos (by simp)] at h4
            injection h4 with h4; subst h4
            rw [p2]
            exact ⟨[], trivial, fun x hx => (List.not_mem_nil hx).elim, rfl, run_firstCells_none w n _ 0 0⟩
          · rw [if_neg (by omega)] at h1
            subst h1
            rw [p2]
            split at h4
            · rename_i h0
              injection h4 with h4; subst h4
              exact ⟨[], trivial, fun x hx => (List.not_mem_nil hx).elim, rfl, run_firstCells_some w n _ _ _ _ [] (by simp [h0]) (by simp)⟩
            · split at h4
              · rename_i hcc
                injection h4 with h4; subst h4
                refine ⟨[.int .i64 d], ⟨rfl, trivial⟩, fun x hx => by simp at hx; subst hx; trivial, rfl, run_firstCells_some w n _ _ _ _ _ (by rw [hcc.1, hcc.2.1]; rfl) fun j u hj => ?_⟩
                cases j with
                | zero => simp at hj; subst hj; rw [Addr.add_lit]; exact p4
                | succ j => simp at hj
              · cases h4
        · cases h4
      obtain ⟨vs, d1, d2, d3, d4⟩ := hsrc
      split at he
      · rename_i hm0
        injection he with he; injection he with e1 e2; subst e1; subst e2
        have hcs0 : vs = [] ∨ vs ≠ [] := by cases vs <;> simp
        have hvs : vs.length = 0 := by
          have e := d1.length
          unfold firstCellsA at h4
          rw [hm0] at h4
          split at h4
          · rw [if_pos (by simp)] at h4; injection h4 with h4; rw [← h4] at e; simpa using e.symm
          · rw [if_pos rfl] at h4; injection h4 with h4; rw [← h4] at e; simpa using e.symm
          · rw [if_pos (by simp)] at h4; injection h4 with h4; rw [← h4] at e; simpa using e.symm
          · cases h4
        have hvs : vs = [] := List.length_eq_zero_iff.1 hvs
        subst hvs
        refine yields_value (v := .int .i64 0) (w' := w) ?_ (Good.same hs rfl trivial)
        simp only [execOp, ho, resolve, invoke, builtin, Builtin.copy_]
        rw [hm0] at d4
        simp [Sem.run_bind, ht, run_underlying hu, k5, d3, hm0, run_size hn, d4, storeCells, goInt]
      · rename_i hm0
        split at he
        · rename_i l hb
          split at he
          · rename_i hcc
            obtain ⟨rfl, hfit, _⟩ := hcc
            injection he with he; injection he with e1 e2; subst e1; subst e2
            obtain ⟨w', h8, h9⟩ := Good.put (P := P) hs hb d1 d2 hfit
            refine yields_value (v := .int .i64 (Nat.min m len : Nat)) (w' := w') ?_ ⟨g, h9, rfl, trivial⟩
            have h10 := h8 0 off rfl rfl
            simp only [execOp, ho, resolve, invoke, builtin, Builtin.copy_]
            simp [Sem.run_bind, ht, run_underlying hu, k5, d3, run_size hn, d4, h10, goInt]
          · cases he
        · cases he
    · cases he
  · cases he
/-- What a call of the evaluator's says of the model's. -/
def CallOK (P : Program) (call : FuncId → List A → S → Rs) : Prop :=
  ∀ f args s r s', call f args s = some (r, s') → (P.funcs[f]?).map (fun fn => (fn.name == "runtime.NumGoroutine", fn.body.isNone)) = some (false, false) ∧
    ∀ g w vals, Sim s.H.get g s.nx w → All2 (RA g w) args vals → (∀ a ∈ args, a.lt s.nx) → Calls P f vals.toArray w fun e w' => ∃ v, e = .returned v ∧ Good s g w r s' v w'
theorem args_rel (hE : Env sl g w nx T ρ) : ∀ {xs : List Operand} {ys : List O} {l : List A}, rdyL xs = some ys → opL T ys = some l → (∀ t, t ∈ ys.flatMap O.slot → sl t) → All2 (RA g w) l (xs.map ρ) ∧ ∀ a ∈ l, a.lt nx
  | [], ys, l, h1, h2, _ => by
    injection h1 with h1; subst h1
    injection h2 with h2; subst h2
    exact ⟨trivial, fun p hp => by cases hp⟩
  | x :: xs, ys, l, h1, h2, h3 => by
    unfold rdyL at h1
    split at h1
    · rename_i y r h4 h5
      injection h1 with h1; subst h1
      unfold opL at h2
      split at h2
      · rename_i a h6
        split at h2
        · rename_i r' h7
          injection h2 with h2; subst h2
          obtain ⟨h8, h9⟩ := args_rel hE h5 h7 (fun t ht => h3 t (by simp at ht ⊢; exact .inr ht))
          obtain ⟨h10, h11⟩ := hE.op h4 (fun t ht => h3 t (by simp [ht])) h6
          refine ⟨⟨h10, h8⟩, fun p hp => ?_⟩
          rcases List.mem_cons.1 hp with rfl | hp
          · exact h11
          · exact h9 p hp
        · cases h2
      · cases h2
    · cases h1
theorem capA_rel (g : Gh) (w : World) {nx : Nat} : ∀ {l : List (Nat × Nat)}, (∀ p ∈ l, p.1 < nx) → All2 (RA g w) (capA l) (l.map (capV g)) ∧ ∀ a ∈ capA l, a.lt nx
  | [], _ => ⟨trivial, fun a ha => by cases ha⟩
  | (b, k) :: l, h => by
    obtain ⟨h1, h2⟩ := capA_rel g w (l := l) fun p hp => h p (by simp [hp])
    refine ⟨⟨rfl, h1⟩, fun a ha => ?_⟩
    rcases List.mem_cons.1 ha with rfl | ha
    · exact h (b, k) (by simp)
    · exact h2 a ha
theorem s_call {call : FuncId → List A → S → Rs} (hcall : CallOK P call) {f : Operand} {args : Array Operand} {ts : Array TypeId} {f' : O} {ys : List O} (ho : o.op = .call { callee := .value f, args := args, argTypes := ts })
    (hf : rdyO f = some f') (ha : rdyL args.toList = some ys) (he : kCall call s (opA T f') (opL T ys) = some (r, s'))
    (hE : Env sl g w s.nx T ρ) (hl : ∀ t, t ∈ f'.slot ++ ys.flatMap O.slot → sl t) (hs : Sim s.H.get g s.nx w) : Own.Yields P o ρ w (Good s g w r s') := by
  unfold kCall at he
  split at he
  · rename_i fn caps l h0 h1
    obtain ⟨h2, h3⟩ := hE.op hf (fun t ht => hl t (by simp [ht])) h0
    obtain ⟨h4, h5⟩ := args_rel hE ha h1 (fun t ht => hl t (List.mem_append_right _ ht))
    obtain ⟨h6, h7⟩ := capA_rel g w h3
    obtain ⟨h8, h9⟩ := hcall _ _ _ _ _ he
    have h10 := h9 g w _ hs (h4.append h6) (fun a ha => by
      rcases List.mem_append.1 ha with h | h
      · exact h5 a h
      · exact h7 a h)
    have hrun : (execOp ρ o).run P w = .ok (.enter fn (args.toList.map ρ ++ caps.map (capV g)).toArray) w := by
      have e : args.map ρ ++ (caps.map (capV g)).toArray = (args.toList.map ρ ++ caps.map (capV g)).toArray := by rw [← Array.toList_inj]; simp
      simp [execOp, ho, resolve, show ρ f = _ from h2, Deferred.ofValue, invoke, run_callFunc h8, e]
    unfold Own.Yields
    rw [hrun]
    exact h10
  · cases he
end Go.Ev
end
/- ev: an operation made ready, run, says what the model's does. No program. -/
section
namespace Go.Ev
open Go.RowKit Go.Own
variable {P : Program} {sl : Nat → Prop} {g : Gh} {w : World} {nx : Nat} {T : Tr A} {ρ : Operand → Value} {s s' : S} {r : A}
theorem op_sound {call : FuncId → List A → S → Rs} (hcall : CallOK P call) {o : Oper} {i : I} (hi : rdyI P o = some i) (he : evI P call T s i = some (r, s'))
    (hE : Env sl g w s.nx T ρ) (hl : ∀ t ∈ i.slots, sl t) (hs : Sim s.H.get g s.nx w) : Own.Yields P o ρ w (Good s g w r s') := by
  obtain ⟨dst, op, ty, pos, after, guard⟩ := o
  cases op with
  | move x =>
    simp only [rdyI, Option.map_eq_some_iff] at hi
    obtain ⟨y, h1, rfl⟩ := hi
    exact s_mv (.inl rfl) h1 he hE hl hs
  | assign x =>
    simp only [rdyI, Option.map_eq_some_iff] at hi
    obtain ⟨y, h1, rfl⟩ := hi
    exact s_mv (.inr rfl) h1 he hE hl hs
  | pick z x y =>
    simp only [rdyI] at hi
    split at hi
    · rename_i c a b h1 h2 h3
      injection hi with hi; subst hi
      exact s_pick rfl h1 h2 h3 he hE hl hs
    · cases hi
  | alloc t =>
    simp only [rdyI, Option.map_eq_some_iff] at hi
    obtain ⟨y, h1, rfl⟩ := hi
    exact s_new rfl h1 he hs
  | box t x =>
    simp only [rdyI, Option.map_eq_some_iff] at hi
    obtain ⟨y, h1, rfl⟩ := hi
    exact s_box rfl h1 he hE hl hs
  | build t ps =>
    simp only [rdyI] at hi
    split at hi
    · rename_i z fs h1 h2
      split at hi
      · rename_i pl h3
        simp only [Option.map_eq_some_iff] at hi
        obtain ⟨q, h4, rfl⟩ := hi
        exact s_build rfl h1 he (.inl ⟨fs, pl, h2, h3, h4⟩) hE hl hs
      · cases hi
    · rename_i z m elem h1 h2
      split at hi
      · rename_i n h3
        simp only [Option.map_eq_some_iff] at hi
        obtain ⟨q, h4, rfl⟩ := hi
        exact s_build rfl h1 he (.inr ⟨_, elem, n, h2, h3, h4⟩) hE hl hs
      · cases hi
    · cases hi
  | buildSlice t len ps =>
    simp only [rdyI] at hi
    split at hi
    · rename_i elem h1
      split at hi
      · rename_i n z h2 h3
        split at hi
        · rename_i hc
          simp only [Option.map_eq_some_iff] at hi
          obtain ⟨q, h4, rfl⟩ := hi
          exact s_lit rfl h1 h2 h3 hc h4 he hE hl hs
        · cases hi
      · cases hi
    · cases hi
  | makeSlice t x y =>
    simp only [rdyI] at hi
    split at hi
    · rename_i elem h1
      split at hi
      · rename_i n z x' y' h2 h3 h4 h5
        split at hi
        · rename_i hc
          injection hi with hi; subst hi
          exact s_make rfl h1 h2 h3 hc h4 h5 he hE hl hs
        · cases hi
      · cases hi
    · cases hi
  | nilCheck x =>
    simp only [rdyI, Option.map_eq_some_iff] at hi
    obtain ⟨y, h1, rfl⟩ := hi
    exact s_nil rfl h1 he hE hl hs
  | fieldAddr t x f =>
    simp only [rdyI] at hi
    split at hi
    · rename_i fs y h1 h2
      split at hi
      · rename_i fd h3
        split at hi
        · rename_i n h4
          injection hi with hi; subst hi
          exact s_fa rfl h1 h3 h4 h2 he hE hl hs
        · cases hi
      · cases hi
    · cases hi
  | indexAddr t x j =>
    simp only [rdyI] at hi
    split at hi
    · rename_i elem x' j' h1 h2 h3
      simp only [Option.map_eq_some_iff] at hi
      obtain ⟨n, h4, rfl⟩ := hi
      exact s_ia rfl h1 h4 h2 h3 he hE hl hs
    · rename_i len elem x' j' h1 h2 h3
      simp only [Option.map_eq_some_iff] at hi
      obtain ⟨n, h4, rfl⟩ := hi
      exact s_aa rfl h1 h4 h2 h3 he hE hl hs
    · cases hi
  | index t x j =>
    simp only [rdyI] at hi
    split at hi
    · rename_i len elem x' j' h1 h2 h3
      split at hi
      · rename_i n ag h4 h5
        injection hi with hi; subst hi
        exact s_ix rfl h1 h4 h5 h2 h3 he hE hl hs
      · cases hi
    · injection hi with hi; subst hi
      exact s_gen (fun _ _ h => by cases h) he hE hl hs
    · cases hi
  | slice t x lo hi' mx =>
    simp only [rdyI] at hi
    split at hi
    · rename_i n x' lo' hi'' mx' h1 h2 h3 h4 h5
      split at hi
      · cases hi
      · rename_i hc
        injection hi with hi; subst hi
        exact s_cut rfl h1 h2 h3 h4 h5 (Bool.not_eq_true _ ▸ hc) he hE hl hs
    · cases hi
  | sliceToArrayPointer t x =>
    simp only [rdyI] at hi
    split at hi
    · rename_i n elem x' h1 h2
      injection hi with hi; subst hi
      exact s_s2a rfl h1 h2 he hE hl hs
    · cases hi
  | extract x j =>
    simp only [rdyI, Option.map_eq_some_iff] at hi
    obtain ⟨y, h1, rfl⟩ := hi
    exact s_ext rfl h1 he hE hl hs
  | makeFunc fn first caps =>
    cases fn with
    | func f =>
      simp only [rdyI] at hi
      split at hi
      · rename_i l h1 h2
        injection hi with hi; subst hi
        exact s_mf rfl h1 h2 he hE hl hs
      · cases hi
    | _ => simp [rdyI] at hi
  | binOp op t x y t' =>
    simp only [rdyI] at hi
    split at hi
    · rename_i a b h1 h2
      have key : ∀ (neg : Bool), op = (if neg then .neq else .eql) → rdyEq P op neg t x y a b = some i → Own.Yields P ⟨dst, .binOp op t x y t', ty, pos, after, guard⟩ ρ w (Good s g w r s') := by
        intro neg hop hi
        unfold rdyEq at hi
        split at hi
        · rename_i k h3
          injection hi with hi; subst hi
          exact s_eqn rfl hop (.inl ⟨rfl, rfl⟩) h3 h1 he hE hl hs
        · rename_i k _ h3
          injection hi with hi; subst hi
          exact s_eqn rfl hop (.inr ⟨rfl, rfl⟩) h3 h2 he hE hl hs
        · injection hi with hi; subst hi
          exact s_bin rfl h1 h2 he hE hl hs
      split at hi
      · exact key false rfl hi
      · exact key true rfl hi
      · injection hi with hi; subst hi
        exact s_bin rfl h1 h2 he hE hl hs
    · cases hi
  | load t x =>
    simp only [rdyI] at hi
    split at hi
    · rename_i ag n x' h1 h2 h3
      injection hi with hi; subst hi
      exact s_ld rfl h1 h2 h3 he hE hl hs
    · cases hi
  | store t x y =>
    simp only [rdyI] at hi
    split at hi
    · rename_i n x' y' h1 h2 h3
      injection hi with hi; subst hi
      exact s_st rfl h1 h2 h3 he hE hl hs
    · cases hi
  | unOp op t x =>
    simp only [rdyI] at hi
    injection hi with hi; subst hi
    exact s_gen (fun _ _ h => by cases h) he hE hl hs
  | convert a b x =>
    simp only [rdyI] at hi
    injection hi with hi; subst hi
    exact s_gen (fun _ _ h => by cases h) he hE hl hs
  | call c =>
    obtain ⟨callee, args, argTypes⟩ := c
    cases callee with
    | value f =>
      simp only [rdyI] at hi
      split at hi
      · rename_i f' l h1 h2
        injection hi with hi; subst hi
        exact s_call hcall rfl h1 h2 he hE hl hs
      · cases hi
    | invoke recv m => simp [rdyI] at hi
    | builtin b =>
      cases b with
      | len =>
        simp only [rdyI] at hi
        split at hi
        · rename_i x t h1 h2
          split at hi
          · rename_i elem x' h3 h4
            injection hi with hi; subst hi
            exact s_len rfl rfl h1 h2 h3 h4 he hE hl hs
          · injection hi with hi; subst hi
            exact s_gen (fun _ _ h => by cases h) he hE hl hs
          · cases hi
        · cases hi
      | min =>
        simp only [rdyI] at hi
        injection hi with hi; subst hi
        exact s_gen (fun _ _ h => by cases h) he hE hl hs
      | max =>
        simp only [rdyI] at hi
        injection hi with hi; subst hi
        exact s_gen (fun _ _ h => by cases h) he hE hl hs
      | append =>
        simp only [rdyI] at hi
        split at hi
        · rename_i x y t t' h1 h2
          split at hi
          · rename_i n q x' y' h3 h4 h5 h6
            injection hi with hi; subst hi
            obtain ⟨e', h7, _⟩ := rdySlice_eq h4
            exact s_app rfl rfl h1 h2 h3 h7 h5 h6 he hE hl hs
          · cases hi
        · cases hi
      | copy =>
        simp only [rdyI] at hi
        split at hi
        · rename_i x y t h1 h2
          split at hi
          · rename_i n x' y' h3 h4 h5
            injection hi with hi; subst hi
            exact s_cpy rfl rfl h1 h2 h3 h4 h5 he hE hl hs
          · cases hi
        · cases hi
      | clear =>
        simp only [rdyI] at hi
        split at hi
        · rename_i x t h1 h2
          split at hi
          · rename_i elem x' h3 h4
            simp only [Option.map_eq_some_iff] at hi
            obtain ⟨z, h5, rfl⟩ := hi
            exact s_clr rfl rfl h1 h2 h3 h5 h4 he hE hl hs
          · cases hi
        · cases hi
      | _ => simp [rdyI] at hi
  | _ => simp [rdyI] at hi
end Go.Ev
end
/- ev: operations in the order of the text. No program. -/
section
namespace Go.Ev
open Go.RowKit Go.Own
variable {P : Program} {g g' : Gh} {w w' : World} {nx nx' : Nat} {T : Tr A} {s s' : S} {r : A} {a a' : Act}
/-- The slots of a frame. -/
def Fr (g : Gh) (w : World) (nx : Nat) (T : Tr A) (a : Act) : Prop := ∀ t x, T.get t = some x → RA g w x (a.tmps.getD t undef) ∧ x.lt nx ∧ t < a.tmps.size
theorem Fr.env (h : Fr g w nx T a) (sl : Nat → Prop) : Env sl g w nx T a.eval where
  slot := fun t x _ ht => ⟨(h t x ht).1, (h t x ht).2.1⟩
  const := fun _ => rfl
  func := fun _ => rfl
theorem Fr.step (h : Fr g w s.nx T a) (hs : Sim s.H.get g s.nx w) (hst : StepS s g w s' g' w') : Fr g' w' s'.nx T a := by
  intro t x ht
  obtain ⟨h1, h2, h3⟩ := h t x ht
  exact ⟨hst.1.ra hs h2 h1, alt_mono hst.1.mono h2, h3⟩
theorem put_size (a : Act) (dst : Option Tmp) (v : Value) : (a.put dst v).tmps.size = a.tmps.size := by cases dst <;> simp [Act.put]
theorem put_defers (a : Act) (dst : Option Tmp) (v : Value) : (a.put dst v).defers = a.defers := by cases dst <;> rfl
theorem Fr.put (h : Fr g w nx T a) {dst : Option Tmp} {v : Value} (hv : RA g w r v) (hl : r.lt nx) (hd : ∀ d, dst = some d → d < a.tmps.size) : Fr g w nx (putT T dst r) (a.put dst v) := by
  intro t x ht
  cases dst with
  | none => exact h t x ht
  | some d =>
    have hdl := hd d rfl
    rcases Tr.get_set _ _ _ _ _ _ (show (Tr.set depth T d (some r)).get t = some x from ht) with ⟨rfl, h2⟩ | ⟨h1, h2⟩
    · injection h2 with h2; subst h2
      refine ⟨?_, hl, by rw [put_size]; exact hdl⟩
      simpa [Act.put, Array.getD_eq_getD_getElem?, hdl] using hv
    · obtain ⟨h3, h4, h5⟩ := h t x h2
      refine ⟨?_, h4, by rw [put_size]; exact h5⟩
      have : (a.put (some d) v).tmps.getD t undef = a.tmps.getD t undef := by
        simp [Act.put, Array.getD_eq_getD_getElem?, Ne.symm h1]
      rw [this]; exact h3
theorem undef_rel (g : Gh) (w : World) (nx : Nat) : RA g w undefA undef ∧ undefA.lt nx := ⟨⟨[], rfl, trivial⟩, fun x hx => by cases hx⟩
/-- An operation and what it was made into. -/
structure Al (P : Program) (nt : Nat) (ops : Array Oper) (o : Oper) (x : X) : Prop where
  op : rdyI P o = some x.op
  dst : x.dst = o.dst
  lt : ∀ d, o.dst = some d → d < nt
  grd : (o.guard = none ∧ x.grd = none) ∨ ∃ j want d, o.guard = some (j, want) ∧ (ops[j]?).bind (·.dst) = some d ∧ x.grd = some (d, want) ∧ x.bef.testBit j = true
theorem wanted_rel {nt : Nat} {ops : Array Oper} {o : Oper} {x : X} {b : Bool} (h : Al P nt ops o x) (hw : wantA T x.grd = some b) (hf : ∀ d v, x.grd.map (·.1) = some d → T.get d = some v → RA g w v (a.tmps.getD d undef) ∧ d < a.tmps.size) :
    Region.wanted o (yielded ops a.tmps) = b := by
  rcases h.grd with ⟨h1, h2⟩ | ⟨j, want, d, h1, h2, h3, _⟩
  · rw [h2] at hw
    simp only [wantA] at hw
    injection hw with hw; subst hw
    simp [Region.wanted, h1]
  · rw [h3] at hw hf
    simp only [wantA] at hw
    have hy : yielded ops a.tmps j = match a.tmps[d]? with | some (.bool b) => some b | _ => none := by
      unfold yielded
      rw [h2]; rfl
    split at hw
    · rename_i q h4
      injection hw with hw; subst hw
      obtain ⟨h5, h6⟩ := hf d _ rfl h4
      have h7 : a.tmps[d]? = some (.bool q) := by
        have : a.tmps.getD d undef = .bool q := h5
        rw [Array.getD_eq_getD_getElem?] at this
        rw [Array.getElem?_eq_getElem h6] at this ⊢
        simpa using this
      simp [Region.wanted, h1, hy, h7]
    · rename_i h4
      injection hw with hw; subst hw
      obtain ⟨⟨vs, h5, h5'⟩, h6⟩ := hf d _ rfl h4
      have h7 : a.tmps[d]? = some (.tuple vs.toArray) := by
        rw [Array.getD_eq_getD_getElem?] at h5
        rw [Array.getElem?_eq_getElem h6] at h5 ⊢
        simpa using h5
      simp [Region.wanted, h1, hy, h7]
    · cases hw
/-- The places of a list of operations. -/
def AlL (P : Program) (nt : Nat) (ops : Array Oper) : List Nat → List X → Prop
  | [], [] => True
  | i :: is, x :: xs => (∃ o, ops[i]? = some o ∧ Al P nt ops o x) ∧ AlL P nt ops is xs
  | _, _ => False
theorem StepS.trans {s1 s2 s3 : S} {g1 g2 g3 : Gh} {w1 w2 w3 : World} (h : StepS s1 g1 w1 s2 g2 w2) (hs : Sim s1.H.get g1 s1.nx w1) (h2 : StepS s2 g2 w2 s3 g3 w3) : StepS s1 g1 w1 s3 g3 w3 :=
  ⟨h.1.trans hs h2.1 (fun b hb => h2.2 b hb), fun b hb => h2.2 b (h.2 b hb)⟩
theorem StepS.refl (hs : Sim s.H.get g s.nx w) : StepS s g w s g w := ⟨hs.rfl_step _, fun _ h => h⟩
/-- Everything is let by; in a round, or in none. -/
def Fd (ro : Option Nat) : Fence := { Fence.wide with round := ro }
theorem callsFd {ro : Option Nat} {n : Nat} {f : FuncId} {args : Array Value} {w : World} {R : Ending → World → Prop} : CallsIn (Fd ro) n P f args w R ↔ Calls P f args w R := callsIn_wide (n := n)
theorem rowsFd {ro : Option Nat} {n : Nat} {row : String} {args : Array Value} {w : World} {R : Value → World → Prop} (h : Rows P row args w R) : RowsIn (Fd ro) n P row args w R := by
  intro c cs _
  obtain ⟨v, w', h1, h2⟩ := h c cs
  exact ⟨v, w', h1, stepsIn_wide.2 h2⟩
theorem rdy_nodefer {o : Oper} {i : I} (h : rdyI P o = some i) : ∀ c, o.op ≠ .defer c := by
  intro c e
  unfold rdyI at h
  rw [e] at h
  cases h
theorem wpIn_of_yields {ro : Option Nat} {n : Nat} {o : Oper} {a : Act} {w : World} {R : Value → World → Prop} {K : Act → World → Prop} {Q : Exit → Act → World → Prop} (hd : ∀ c, o.op ≠ .defer c) (h : Own.Yields P o a.eval w R) (hK : ∀ v w', R v w' → K (a.put o.dst v) w') : o.wpIn (Fd ro) n P a w K Q := by
  refine ⟨fun _ _ => trivial, ?_⟩
  rw [Oper.semAt_eq _ _ _ hd]
  unfold Own.Yields at h
  cases hr : (execOp a.eval o).run P w with
  | halt x w1 => rw [hr] at h; exact h.elim
  | ok nx w1 =>
    rw [hr] at h
    cases nx <;> first | exact h.elim | skip
    case value u => exact hK _ _ h
    case skip => exact hK _ _ h
    case enter f args =>
      refine ⟨fun e => (by cases e), callsFd.2 (Calls.mono h ?_)⟩
      rintro e w'' ⟨v, rfl, hR⟩
      exact hK _ _ hR
    case row r args => exact ⟨fun e => (by cases e), rowsFd (Rows.mono h hK)⟩
theorem seq_sound {call : FuncId → List A → S → Rs} (hcall : CallOK P call) {ro : Option Nat} {n nt : Nat} {ops : Array Oper} {Q : Exit → Act → World → Prop} : ∀ {l : List X} {is : List Nat} {T T' : Tr A} {s s' : S} {g : Gh} {w : World} {a : Act},
    AlL P nt ops is l → evSeq P call l T s = some (T', s') → Fr g w s.nx T a → Sim s.H.get g s.nx w → nt ≤ a.tmps.size →
    (∀ g' a' w', StepS s g w s' g' w' → Fr g' w' s'.nx T' a' → a'.defers = a.defers → a'.tmps.size = a.tmps.size → Q .normal a' w') → wpOpsIn (Fd ro) n P ops Q is a w
  | [], [], T, T', s, s', g, w, a, _, he, hf, hs, _, hQ => by
    simp only [evSeq_nil] at he
    injection he with he; injection he with h1 h2; subst h1; subst h2
    exact hQ g a w (StepS.refl hs) hf rfl rfl
  | x :: xs, i :: is, T, T', s, s', g, w, a, ⟨⟨o, ho, hal⟩, hall⟩, he, hf, hs, hnt, hQ => by
    simp only [evSeq_cons] at he
    simp only [wpOpsIn, ho]
    split at he
    · rename_i hw
      have hwant := wanted_rel (g := g) (w := w) (a := a) hal hw (fun d v _ hv => ⟨(hf d v hv).1, (hf d v hv).2.2⟩)
      rw [if_pos hwant]
      unfold afterSeq at he
      split at he
      · rename_i v s1 h1
        refine wpIn_of_yields (rdy_nodefer hal.op) (op_sound hcall hal.op h1 (hf.env fun _ => True) (fun _ _ => trivial) hs) ?_
        rintro u w1 ⟨g1, hst, hr, hl⟩
        have hd : ∀ d, o.dst = some d → d < a.tmps.size := fun d hd => Nat.lt_of_lt_of_le (hal.lt d hd) hnt
        refine seq_sound hcall hall he (by rw [hal.dst]; exact (hf.step hs hst).put hr hl hd) hst.1.sim (by rw [put_size]; exact hnt) fun g' a' w' h2 h3 h4 h5 => ?_
        exact hQ g' a' w' (hst.trans hs h2) h3 (h4.trans (put_defers _ _ _)) (h5.trans (put_size _ _ _))
      · cases he
    · rename_i hw
      have hwant := wanted_rel (g := g) (w := w) (a := a) hal hw (fun d v _ hv => ⟨(hf d v hv).1, (hf d v hv).2.2⟩)
      rw [if_neg (by rw [hwant]; simp)]
      have hd : ∀ d, o.dst = some d → d < a.tmps.size := fun d hd => Nat.lt_of_lt_of_le (hal.lt d hd) hnt
      obtain ⟨u1, u2⟩ := undef_rel g w s.nx
      refine ⟨fun _ _ => trivial, ?_⟩
      refine seq_sound hcall hall he (by rw [hal.dst]; exact hf.put u1 u2 hd) hs (by rw [put_size]; exact hnt) fun g' a' w' h2 h3 h4 h5 => ?_
      exact hQ g' a' w' h2 h3 (h4.trans (put_defers _ _ _)) (h5.trans (put_size _ _ _))
    · cases he
  | [], _ :: _, _, _, _, _, _, _, _, h, _, _, _, _, _ => h.elim
  | _ :: _, [], _, _, _, _, _, _, _, h, _, _, _, _, _ => h.elim
end Go.Ev
end
