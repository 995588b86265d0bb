/- journal: a journal in memory; the sectors are read, one by one. -/
import Derived.Test.YtbmnbdkbgpajeaaGreatDoorZe17
import Derived.Test.YtbmnbdkbgpajeaaGreatDoorZe18
/- journal: a journal in memory; the sectors are read, one by one. -/
section
namespace Go.Own
open Go.RowKit
theorem own_far {w w' : World} {base size n : Nat} {e : TypeId} {v : Value} {xs : List Value} {row : Option Nat} (h : w.ownsRow base e size v n xs) (hg : w.grownBy w' row) (hr : ∀ k, v.ownBlock = some k → row ≠ some k) : w'.ownsRow base e size v n xs := by
  refine ⟨h.1, ?_⟩
  rcases h.2 with hn | ⟨g, cap, cur, rfl, hb, hgg, rest⟩
  · exact .inl hn
  · exact .inr ⟨g, cap, cur, rfl, hb, (hg.block g (Array.getElem?_eq_some_iff.1 hgg).1 (fun e => hr g rfl e.symm)).trans hgg, rest⟩
end Go.Own
namespace Go.Jn
open Go.RowKit Go.Own Go.Disk
/-- the blocks of a journal -/
structure Jf where
  g : Nat
  vn : Value
  vb : Value
  vt : Value
def intsV (l : List Nat) : List Value := l.map fun n : Nat => .int .i64 n
def Jf.all (J : Jf) : List Nat := J.g :: (J.vn.ownBlock.toList ++ (J.vb.ownBlock.toList ++ J.vt.ownBlock.toList))
def parts0 (d : DS) : List (List UInt8) := d.s.map cont
theorem cont_len {d : DS} (h : Disk.Ok d) : ∀ s ∈ parts0 d, s.length = 64 := fun s hs => by
  obtain ⟨x, hx, rfl⟩ := List.mem_map.1 hs
  unfold cont
  cases e : x.p with
  | none => exact h.t x hx
  | some q => exact h.p x hx q e
theorem aread_at {d : DS} {i : Nat} (h0 : d.off = false) (hi : i < d.s.length) : aread d i = ((parts0 d).getD i [], 0) := by
  unfold aread
  rw [acheck_at h0 hi]
  simp only [ne_eq, not_true_eq_false, if_false]
  congr 1
  unfold parts0 sec cont
  rw [List.getD_eq_getElem?_getD, List.getD_eq_getElem?_getD, List.getElem?_map, Int.toNat_natCast, List.getElem?_eq_getElem hi]
  rfl
theorem unpack_b (s : List UInt8) : (Jn.unpack s).b.length ≤ 48 := by
  unfold Jn.unpack
  split
  · exact Nat.le_trans (List.length_take_le _ _) (Nat.min_le_right _ _)
  · simp [prt0]
theorem unpack_k (s : List UInt8) : (Jn.unpack s).k < 65536 := by
  unfold Jn.unpack
  split
  · exact Go.Proofs.YtbmnbdkbgpajeaaGreatDoor.num_lt2 _
  · simp [prt0]
theorem badK_le (l : List (List UInt8)) (i : Nat) : (badK l i).length ≤ i := by
  unfold badK
  have := List.length_filter_le (fun i => !(Jn.unpack (l.getD i [])).ok && !blank (l.getD i [])) (List.range i)
  rwa [List.length_range] at this
end Go.Jn
namespace Go.Proofs.YtbmnbdkbgpajeaaGreatDoor
open Go.RowKit Go.Own Go.Jn Go.Disk Go.BigFrame Go.Sha
structure JM (w : World) (f : Ft) (J : Jf) (j : JS) : Prop where
  head : Blk w J.g [.pointer (some ⟨f.p, 0, none⟩), J.vn, J.vb, J.vt, .int .i64 j.next, .int .i64 j.fin, .bool j.closed] 89
  rn : w.ownsRow (J.g + 1) 3 1 J.vn j.rs.length (intsV (nums j))
  rb : w.ownsRow (J.g + 1) 3 1 J.vb j.bad.length (intsV j.bad)
  rt : w.ownsRow (J.g + 1) 9 1 J.vt j.rs.length ((texts j).map str)
  low : ∀ x ∈ f.all, x < J.g
  nb : ∀ b, J.vn.ownBlock = some b → J.vb.ownBlock ≠ some b
  fin : j.fin ≤ 4096
  next : 1 ≤ j.next ∧ j.next ≤ 4097
  few : j.rs.length ≤ 4096 + j.next ∧ j.bad.length ≤ 4096
theorem JM.chg {w w' : World} {f : Ft} {J : Jf} {j : JS} {F : List Nat} (h : JM w f J j) (hc : Chg F w w') (hF : ∀ x ∈ J.all, x ∉ F) : JM w' f J j :=
  ⟨h.head.chg hc (hF _ (by simp [Jf.all])), own_chg h.rn hc (fun b hb => hF b (by simp [Jf.all, hb])), own_chg h.rb hc (fun b hb => hF b (by simp [Jf.all, hb])), own_chg h.rt hc (fun b hb => hF b (by simp [Jf.all, hb])), h.low, h.nb, h.fin, h.next, h.few⟩
theorem JM.below {w w' : World} {f : Ft} {J : Jf} {j : JS} (h : JM w f J j) (hb : Below w.heap.size w w') : JM w' f J j := h.chg (.of_below (F := []) hb) (by simp)
/-- the blocks of a journal lie behind its first one, and behind the disk's -/
theorem JM.lo {w : World} {f : Ft} {J : Jf} {j : JS} (h : JM w f J j) : ∀ x ∈ J.all, J.g ≤ x ∧ x < w.heap.size := fun x hx => by
  simp only [Jf.all, List.mem_cons, List.mem_append, Option.mem_toList] at hx
  rcases hx with rfl | hx | hx | hx
  · exact ⟨Nat.le_refl _, h.head.lt⟩
  · have := h.rn.lt x hx; omega
  · have := h.rb.lt x hx; omega
  · have := h.rt.lt x hx; omega
theorem JM.apart {w : World} {f : Ft} {J : Jf} {j : JS} (h : JM w f J j) : ∀ x ∈ J.all, x ∉ f.all := fun x hx hf => by have := (h.lo x hx).1; have := h.low x hf; omega
/-- two rows of different kinds lie in different blocks -/
theorem own_types {w : World} {b1 b2 s1 s2 n1 n2 : Nat} {e1 e2 : TypeId} {v1 v2 : Value} {x1 x2 : List Value} (h1 : w.ownsRow b1 e1 s1 v1 n1 x1) (h2 : w.ownsRow b2 e2 s2 v2 n2 x2) (he : e1 ≠ e2) : ∀ b, v1.ownBlock = some b → v2.ownBlock ≠ some b := fun b h3 h4 => by
  rcases h1.2 with ⟨rfl, _⟩ | ⟨g, c, cur, rfl, _, hg, _⟩
  · cases h3
  · rcases h2.2 with ⟨rfl, _⟩ | ⟨g2, c2, cur2, rfl, _, hg2, _⟩
    · cases h4
    · injection h3 with h3
      injection h4 with h4
      subst h3 h4
      rw [hg] at hg2
      injection hg2 with hg2
      injection hg2 with _ hg2
      exact he hg2
theorem wpList_value_stop {P : Program} {ops : Array Oper} {Q : Exit → Act → World → Prop} {o : Oper} {rest : List Oper} {a : Act} {w w' : World} {v : Value} (hw : Region.wanted o (yielded ops a.tmps) = true)
    (h : (execOp a.eval o).run P w = .ok (.value v) w') (hn : ∀ u : Value, Hid (u = v) → wpList P ops Q rest (a.put o.dst u) w') : wpList P ops Q (o :: rest) a w :=
  wpList_of_yields hw (yields_value h (hn v rfl))
theorem sl_sec {W : World} {v : Value} {s : List UInt8} (h : Sl W 1 v s.length (s.map byv)) (h64 : s.length = 64) : ∃ g off cap, v = .slice (some ⟨g, off, none⟩) 64 cap ∧ Cells W g off (s.map byv) ∧ g < W.heap.size := by
  obtain ⟨_, ⟨_, h0⟩ | ⟨g, off, cap, hv, hc1, hc2, hC, hlt⟩⟩ := h
  · omega
  · exact ⟨g, off, cap, by rw [hv, h64], hC, hlt⟩
theorem own_blk_ne {w : World} {b1 s1 n1 : Nat} {e1 e2 : TypeId} {v1 : Value} {x1 x2 : List Value} {g : Nat} (h1 : w.ownsRow b1 e1 s1 v1 n1 x1) (h2 : Blk w g x2 e2) (he : e1 ≠ e2) : v1.ownBlock ≠ some g := fun h => by
  rcases h1.2 with ⟨rfl, _⟩ | ⟨g2, c, cur, rfl, _, hg, _⟩
  · cases h
  · injection h with h
    subst h
    unfold Blk at h2
    rw [h2] at hg
    injection hg with hg
    injection hg with _ hg
    exact he hg.symm
theorem eqlSec (w : World) (a b : List UInt8) (ha : a.length = 64) (hb : b.length = 64) : (binOp .eql 96 (bval a) (bval b)).run Tryz.prog w = .ok (.bool (a == b)) w := by
  unfold bval
  have h : (Op.equalIn 10000 96 (.agg (a.map byv).toArray) (.agg (b.map byv).toArray)).run Tryz.prog w = .ok (a == b) w := run_equalIn_bytes (P := Tryz.prog) w 9998 96 5 64 hTsec hT8 size8 a b ha hb
  rw [run_eql_struct, h]
  rfl
theorem eqlSec_exec {o : Oper} {ρ : Operand → Value} {x y : Operand} {a b : List UInt8} {ty : TypeId} (ho : o.op = .binOp .eql 96 x y ty) (hx : ρ x = bval a) (hy : ρ y = bval b) (ha : a.length = 64) (hb : b.length = 64) (w : World) :
    (execOp ρ o).run Tryz.prog w = .ok (.value (.bool (a == b))) w := by
  have hg : (eqGuard .eql 96 x y (.agg (a.map byv).toArray) (.agg (b.map byv).toArray)).run Tryz.prog w = .ok () w := run_eqGuard_agg w .eql 96 x y _ _ (by kernel_rfl)
  change (eqGuard .eql 96 x y (bval a) (bval b)).run Tryz.prog w = _ at hg
  unfold execOp
  simp only [ho, hx, hy, Sem.run_bind, Sem.run_pure, Result.andThen_ok, hg, eqlSec w a b ha hb]
theorem buildSec (w : World) : (Instr.build 96 #[]).run Tryz.prog w = .ok (bval Disk.zeros) w := by kernel_rfl
theorem buildSec_exec {o : Oper} {ρ : Operand → Value} (ho : o.op = .build 96 #[]) (w : World) : (execOp ρ o).run Tryz.prog w = .ok (.value (bval Disk.zeros)) w := by
  unfold execOp
  simp only [ho, List.map_toArray, List.map_nil, Sem.run_bind, buildSec, Sem.run_pure, Result.andThen_ok]
theorem infoPart2 : (Tryz.prog.info? 94).map (fun i => (i.zero, i.size, i.bytes)) = some (some (prtV prt0), 5, 48) := by kernel_rfl
theorem infoInt : (Tryz.prog.info? 3).map (fun i => (i.zero, i.size, i.bytes)) = some (some (.int .i64 0), 1, 8) := by kernel_rfl
theorem hTparts : Tryz.prog.underlying 90 = some (.slice 94) := by kernel_rfl
theorem hTints : Tryz.prog.underlying 51 = some (.slice 3) := by kernel_rfl
theorem infoJ : (Tryz.prog.info? 89).map (·.size) = some 7 := by kernel_rfl
/-- Behind k sectors. -/
structure OpR (S : List (List UInt8)) (f : Ft) (G : Nat) (k : Nat) (v vb : Value) (W : World) : Prop where
  head : Blk W G [.pointer (some ⟨f.p, 0, none⟩), .slice none 0 0, vb, .slice none 0 0, .int .i64 (nextK S k), .int .i64 (finK S k), .bool false] 89
  row : W.ownsRow (G + 1) 94 5 v k (prts ((S.take k).map Jn.unpack))
  bad : W.ownsRow (G + 1) 3 1 vb (badK S k).length (intsV (badK S k))
theorem OpR.below {S : List (List UInt8)} {f : Ft} {G k : Nat} {v vb : Value} {W W' : World} (h : OpR S f G k v vb W) (hb : Below W.heap.size W W') : OpR S f G k v vb W' := ⟨h.head.below hb h.head.lt, own_below h.row hb, own_below h.bad hb⟩
end Go.Proofs.YtbmnbdkbgpajeaaGreatDoor
end
/- journal: slices.Contains and Clone at rows of numbers and of texts. -/
section
namespace Go.Jn
open Go.RowKit Go.Own Go.Disk
theorem recV_none {x : Prt} {r : List Prt} (h : (recV (x :: r)).2.2 = false) : recAt (x :: r) = none := by
  unfold recV at h
  cases e : recAt (x :: r) with
  | none => rfl
  | some q => rw [e] at h; cases h
theorem recV_some {x : Prt} {r : List Prt} (h : (recV (x :: r)).2.2 = true) : recAt (x :: r) = some ((recV (x :: r)).1, (recV (x :: r)).2.1) := by
  unfold recV at h ⊢
  cases e : recAt (x :: r) with
  | none => rw [e] at h; cases h
  | some q => rfl
theorem recV_n {x : Prt} {r : List Prt} (hx : x.l ≤ 8000) (h : (recV (x :: r)).2.2 = true) : 1 ≤ (recV (x :: r)).2.1 ∧ (recV (x :: r)).2.1 ≤ (x :: r).length := by
  rw [recV_eq] at h ⊢
  split at h
  · rename_i hc
    rw [if_pos hc]
    exact ⟨(cntN_pos hx).1, hc.2.2.1⟩
  · cases h
end Go.Jn
namespace Go.Proofs.YtbmnbdkbgpajeaaGreatDoor
open Go.RowKit Go.Own Go.Jn Go.Disk Go.BigFrame Go.Sha Go.Shelf
theorem contains_any (l : List Nat) (x : Nat) (v : Value) (w : World) (h : Sl w 1 v l.length (intsV l)) (hl : l.length ≤ 1000000) :
    Calls Tryz.prog 51 #[v, .int .i64 x] w fun e w' => e = .returned (.bool (l.contains x)) ∧ w' = w := by
  obtain ⟨hlen, ⟨rfl, h0⟩ | ⟨b, off, cap, rfl, h1, h2, hC, hlt⟩⟩ := h
  · obtain rfl := List.length_eq_zero_iff.1 h0
    exact (Any.slices_Contains_int_empty Tryz.lays107 none 0 x w)
  · refine (Any.slices_Contains_int Tryz.lays107 b off l.length cap (l.map fun n : Nat => (n : Int)) x w (by simp) (by omega) (fun j hj => ?_)).mono ?_
    · rw [List.length_map] at hj
      refine hC j _ ?_
      unfold intsV
      simp [hj]
    · rintro e w' ⟨rfl, rfl⟩
      refine ⟨?_, rfl⟩
      congr 2
      rw [List.take_of_length_le (by simp), Bool.eq_iff_iff, List.contains_iff_mem, List.contains_iff_mem, List.mem_map]
      constructor
      · rintro ⟨a, h1, h2⟩; rwa [show a = x by omega] at h1
      · intro h; exact ⟨x, h, rfl⟩
end Go.Proofs.YtbmnbdkbgpajeaaGreatDoor
end
/- A region that draws its order, with one edge more: a move that no one waits for may as well come early. -/
section
namespace Go.Own.SqE
open Go.RowKit Go.Own
/-- Operation k waits for operation i as well. -/
def addE (l : List Oper) (k i : Nat) : List Oper := l.set k { (l.getD k default) with after := (l.getD k default).after.push { on := i, ground := .data } }
def moveB (o : Oper) (d s : Nat) : Bool := (match o.op with | .move (.tmp t) => t == s | _ => false) && (o.dst == some d) && o.after.all fun e => !Region.binds .any e
/-- Operation i is a move from s to d that waits for no one; no other operation writes s or d; who looks at d waits for i. -/
def addB (l : List Oper) (k i d s : Nat) : Bool :=
  decide (i ≠ k) && decide (k < l.length) && decide (d ≠ s) && Region.noSelect l.toArray && (match l[i]? with | some o => moveB o d s | none => false) &&
  ((List.range l.length).all fun j => match l[j]? with
    | some o => o.guard.isNone && (j == i || (o.dst != some d && o.dst != some s && (o.looksAt l.toArray).all fun t => t != d || waitsB o i))
    | none => true)
structure AddF (l : List Oper) (k i d s : Nat) : Prop where
  ne : i ≠ k
  lt : k < l.length
  ds : d ≠ s
  sel : ∀ (j : Nat) (o : Oper) cs b, l[j]? = some o → o.op ≠ .select cs b
  mv : ∃ o, l[i]? = some o ∧ o.op = .move (.tmp s) ∧ o.dst = some d ∧ ∀ e ∈ o.after, Region.binds .any e = false
  guard : ∀ (j : Nat) (o : Oper), l[j]? = some o → o.guard = none
  dst : ∀ (j : Nat) (o : Oper), l[j]? = some o → j ≠ i → o.dst ≠ some d ∧ o.dst ≠ some s
  looks : ∀ (j : Nat) (o : Oper), l[j]? = some o → j ≠ i → d ∈ o.looksAt l.toArray → waitsB o i = true
theorem noSelect_spec {l : List Oper} (h : Region.noSelect l.toArray = true) (j : Nat) (o : Oper) (cs b) (ho : l[j]? = some o) : o.op ≠ .select cs b := by
  exact Region.noSelect_spec h j o cs b (by simpa using ho)
theorem addF_of {l : List Oper} {k i d s : Nat} (h : addB l k i d s = true) : AddF l k i d s := by
  simp only [addB, Bool.and_eq_true, decide_eq_true_eq, List.all_eq_true, List.mem_range] at h
  obtain ⟨⟨⟨⟨⟨h1, h2⟩, h3⟩, h4⟩, h5⟩, h6⟩ := h
  have key : ∀ (j : Nat) (o : Oper), l[j]? = some o → o.guard.isNone = true ∧ (j = i ∨ ((o.dst != some d) = true ∧ (o.dst != some s) = true ∧ ∀ t ∈ o.looksAt l.toArray, t ≠ d ∨ waitsB o i = true)) := fun j o ho => by
    have hj : j < l.length := (List.getElem?_eq_some_iff.1 ho).1
    have := h6 j hj
    rw [ho] at this
    simp only [Bool.and_eq_true, Bool.or_eq_true, beq_iff_eq, List.all_eq_true, bne_iff_ne] at this ⊢
    refine ⟨this.1, this.2.imp id fun h => ⟨h.1.1, h.1.2, h.2⟩⟩
  refine ⟨h1, h2, h3, fun j o cs b ho => noSelect_spec h4 j o cs b ho, ?_, fun j o ho => by simpa using (key j o ho).1, fun j o ho hj => ?_, fun j o ho hj hd => ?_⟩
  · cases ho : l[i]? with
    | none => rw [ho] at h5; cases h5
    | some o =>
      rw [ho] at h5
      simp only [moveB, Bool.and_eq_true, beq_iff_eq, Array.all_eq_true] at h5
      refine ⟨o, rfl, ?_, h5.1.2, fun e he => ?_⟩
      · have := h5.1.1
        split at this
        · rename_i t ht
          rw [ht]
          simp only [beq_iff_eq] at this
          rw [this]
        · cases this
      · obtain ⟨n, hn, rfl⟩ := Array.getElem_of_mem he
        have := h5.2 n hn
        simpa using this
  · have := (key j o ho).2.resolve_left hj
    exact ⟨by simpa using this.1, by simpa using this.2.1⟩
  · exact ((key j o ho).2.resolve_left hj).2.2 d hd |>.resolve_left fun h => h rfl
section
variable {P : Program} {l : List Oper} {k i d s : Nat}
theorem addE_len : (addE l k i).length = l.length := by unfold addE; simp
theorem addE_ne {j : Nat} (h : j ≠ k) : (addE l k i)[j]? = l[j]? := by unfold addE; rw [List.getElem?_set_ne (fun e => h e.symm)]
theorem addE_at (F : AddF l k i d s) : (addE l k i)[k]? = some { l[k]'F.lt with after := (l[k]'F.lt).after.push { on := i, ground := .data } } := by
  unfold addE
  rw [List.getElem?_set_self F.lt, List.getD_eq_getElem?_getD, List.getElem?_eq_getElem F.lt]
  rfl
/-- The operations of the two regions differ in what they wait for alone. -/
theorem addE_op (F : AddF l k i d s) {j : Nat} {o : Oper} (ho : l[j]? = some o) : ∃ A, (addE l k i)[j]? = some { o with after := A } := by
  by_cases h : j = k
  · subst h
    obtain ⟨h1, h2⟩ := List.getElem?_eq_some_iff.1 ho
    exact ⟨_, by rw [addE_at F, h2]⟩
  · exact ⟨o.after, by rw [addE_ne h, ho]⟩
theorem ready_mem {ops : List Oper} {L : Array Bool} {j : Nat} : j ∈ Region.ready .any ops.toArray L ↔ ∃ o, ops[j]? = some o ∧ L.getD j true = false ∧ ∀ e ∈ o.after, Region.binds .any e = true → L.getD e.on false = true := by
  unfold Region.ready
  simp only [List.mem_filter, List.mem_range, List.size_toArray, Bool.and_eq_true, Bool.not_eq_true', List.getElem?_toArray]
  constructor
  · rintro ⟨h1, h2, h3⟩
    refine ⟨ops[j], List.getElem?_eq_getElem h1, h2, fun e he hb => ?_⟩
    rw [List.getElem?_eq_getElem h1] at h3
    simp only [Option.map_some, Option.getD_some, Array.all_eq_true] at h3
    obtain ⟨n, hn, rfl⟩ := Array.getElem_of_mem he
    have := h3 n hn
    rw [hb] at this
    simpa using this
  · rintro ⟨o, h1, h2, h3⟩
    obtain ⟨hj, hjo⟩ := List.getElem?_eq_some_iff.1 h1
    refine ⟨hj, h2, ?_⟩
    rw [h1]
    simp only [Option.map_some, Option.getD_some, Array.all_eq_true]
    intro n hn
    cases hb : Region.binds .any o.after[n] with
    | false => rfl
    | true => simp [h3 _ (Array.getElem_mem hn) hb]
/-- Where i is listed both regions are ready alike. -/
theorem ready_same (F : AddF l k i d s) {L : Array Bool} (hi : L.getD i false = true) (j : Nat) : j ∈ Region.ready .any l.toArray L ↔ j ∈ Region.ready .any (addE l k i).toArray L := by
  rw [ready_mem, ready_mem]
  by_cases h : j = k
  · subst h
    rw [addE_at F, List.getElem?_eq_getElem F.lt]
    constructor
    · rintro ⟨o, h1, h2, h3⟩
      injection h1 with h1
      subst h1
      refine ⟨_, rfl, h2, fun e he hb => ?_⟩
      rcases Array.mem_push.1 he with he | rfl
      · exact h3 e he hb
      · exact hi
    · rintro ⟨o, h1, h2, h3⟩
      injection h1 with h1
      subst h1
      exact ⟨_, rfl, h2, fun e he hb => h3 e (Array.mem_push.2 (.inl he)) hb⟩
  · rw [addE_ne h]
theorem ready_i (F : AddF l k i d s) {L : Array Bool} (hu : L.getD i true = false) : i ∈ Region.ready .any (addE l k i).toArray L := by
  obtain ⟨o, ho, _, _, hb⟩ := F.mv
  exact ready_mem.2 ⟨o, by rw [addE_ne F.ne, ho], hu, fun e he h => by rw [hb e he] at h; cases h⟩
theorem ready_no (F : AddF l k i d s) {L : Array Bool} (hu : L.getD i true = false) {j : Nat} {o : Oper} (ho : l[j]? = some o) (hj : j ∈ Region.ready .any l.toArray L) : waitsB o i = false := by
  obtain ⟨o', ho', _, h3⟩ := ready_mem.1 hj
  obtain rfl : o = o' := Option.some.inj (ho.symm.trans ho')
  cases hw : waitsB o i with
  | false => rfl
  | true =>
    unfold waitsB at hw
    obtain ⟨e, he, h4⟩ := Array.any_eq_true'.1 hw
    simp only [Bool.and_eq_true, beq_iff_eq] at h4
    have := h3 e he h4.1
    rw [h4.2] at this
    rw [getD_both hu] at this
    cases this
theorem put_comm (a : Act) {d : Nat} {v : Value} {x : Option Tmp} (y : Value) (h : x ≠ some d) : (a.put (some d) v).put x y = (a.put x y).put (some d) v := by
  cases x with
  | none => rfl
  | some t =>
    have : d ≠ t := fun e => h (by rw [e])
    simp only [Act.put]
    rw [Array.setIfInBounds_comm _ _ this]
theorem put_eval (a : Act) {s : Nat} {x : Option Tmp} (y : Value) (h : x ≠ some s) : (a.put x y).tmps.getD s undef = a.tmps.getD s undef := by
  cases x with
  | none => rfl
  | some t =>
    have : t ≠ s := fun e => h (by rw [e])
    simp only [Act.put, Array.getD_eq_getD_getElem?, Array.getElem?_setIfInBounds_ne this]
theorem put_look (a : Act) {d t : Nat} {v : Value} (h : t ≠ d) : (a.put (some d) v).tmps.getD t undef = a.tmps.getD t undef := put_eval a v (fun e => h (by injection e with e; exact e.symm))
/-- One operation that does not look at d, in a frame with d and in one without. -/
theorem wp_without {o : Oper} {a : Act} {w : World} {v : Value} {d s : Nat} {Q : Exit → Act → World → Prop} {K K' : Act → World → Prop} (hQ : ∀ X a w, Q X a w → X = .normal) (he : execOp (a.put (some d) v).eval o = execOp a.eval o) (hd : o.dst ≠ some d) (hs : o.dst ≠ some s)
    (hv : v = a.tmps.getD s undef) (hK : ∀ a1 w1, v = a1.tmps.getD s undef → K' (a1.put (some d) v) w1 → K a1 w1) (h : o.wp P (a.put (some d) v) w K' Q) : o.wp P a w K Q := by
  have hn : ∀ (a1 : Act) (x : Value) w1, a1.tmps = a.tmps → K' ((a1.put (some d) v).put o.dst x) w1 → K (a1.put o.dst x) w1 := fun a1 x w1 e h => by
    rw [put_comm a1 x hd] at h
    exact hK _ _ (by rw [put_eval a1 x hs, e, hv]) h
  unfold Oper.wp at h ⊢
  rw [he] at h
  generalize (execOp a.eval o).run P w = r at *
  cases r with
  | ok n w' =>
    cases n with
    | value x => exact hn a x _ rfl h
    | skip => exact hn a _ _ rfl h
    | defer D => exact hn { a with defers := D :: a.defers } _ _ rfl h
    | enter f args =>
      refine Calls.mono h fun e w'' hh => ?_
      cases e with
      | returned x => exact hn a x _ rfl hh
      | panicked c => exact absurd (hQ _ _ _ hh) (by intro e; cases e)
      | outgrown => exact hh
    | row q args => exact Rows.mono h fun x w'' hh => hn a x _ rfl hh
    | _ => exact h
  | halt x w' =>
    cases x with
    | panic v => exact absurd (hQ _ _ _ h) (by intro e; cases e)
    | _ => exact h
theorem left_of {Q : Exit → Act → World → Prop} (hQ : ∀ X a w, Q X a w → X = .normal) {A B : Prop} (h : A ∨ (B ∧ LetsOut Q)) : A := by
  rcases h with h | ⟨_, a, w, h⟩
  · exact h
  · have := hQ _ _ _ h; cases this
theorem wanted_free {o : Oper} (h : o.guard = none) (y) : Region.wanted o y = true := by unfold Region.wanted; simp only [h]
theorem getD_set_other {L : Array Bool} {i j : Nat} {b : Bool} (h : j ≠ i) : (L.setIfInBounds j true).getD i b = L.getD i b := by
  rw [Array.getD_eq_getD_getElem?, Array.getD_eq_getD_getElem?, Array.getElem?_setIfInBounds_ne h]
theorem set_true_comm (L : Array Bool) (i j : Nat) : (L.setIfInBounds i true).setIfInBounds j true = (L.setIfInBounds j true).setIfInBounds i true := by
  by_cases h : i = j
  · rw [h]
  · exact Array.setIfInBounds_comm _ _ h
theorem getD_set_self {L : Array Bool} {i : Nat} {b : Bool} (h : L.getD i true = false) : (L.setIfInBounds i true).getD i b = true := by
  rcases Nat.lt_or_ge i L.size with h' | h'
  · simp [h']
  · simp [Array.getElem?_eq_none h'] at h
theorem move_run {o : Oper} {x : Operand} (h : o.op = .move x) {ρ : Operand → Value} {w : World} : (execOp ρ o).run P w = .ok (.value (ρ x)) w := by
  obtain ⟨dst, op, type, pos, after, guard⟩ := o
  subst h
  rfl
/-- Where i is listed on both sides. -/
theorem same (F : AddF l k i d s) {Q : Exit → Act → World → Prop} (hQ : ∀ X a w, Q X a w → X = .normal) : ∀ (f : Nat) (L : Array Bool) (a : Act) (w : World), L.getD i false = true → wpAny P .any (addE l k i).toArray Q f L a w → wpAny P .any l.toArray Q f L a w
  | 0, L, a, w, hi, h => by
    refine ⟨?_, h.2⟩
    rw [List.eq_nil_iff_forall_not_mem]
    intro m hm
    have := (ready_same F hi m).1 hm
    rw [h.1] at this
    cases this
  | f + 1, L, a, w, hi, h => by
    refine ⟨fun he => h.1 ?_, fun j hj => ?_⟩
    · rw [List.eq_nil_iff_forall_not_mem]
      intro m hm
      have := (ready_same F hi m).2 hm
      rw [he] at this
      cases this
    · obtain ⟨oj, hoj, _, _⟩ := ready_mem.1 hj
      have h5 := h.2 j ((ready_same F hi j).1 hj)
      obtain ⟨A, hA⟩ := addE_op F hoj
      unfold wpOp at h5 ⊢
      rw [List.getElem?_toArray] at h5 ⊢
      rw [hA] at h5
      rw [hoj]
      simp only at h5 ⊢
      rw [if_pos (wanted_free (o := { oj with after := A }) (F.guard j oj hoj) _)] at h5
      rw [if_pos (wanted_free (F.guard j oj hoj) _)]
      left
      have h6 : oj.wp P a w _ Q := left_of hQ h5
      refine Oper.wp_mono (fun a' w' hk => same F hQ f _ a' w' ?_ hk) h6
      rcases Nat.decEq j i with hne | rfl
      · rw [getD_set_other hne]; exact hi
      · rcases Nat.lt_or_ge j L.size with h' | h'
        · simp [h']
        · simp [Array.getElem?_eq_none h'] at hi
/-- i is out of the way on the one side, and still to come on the other. -/
theorem later (F : AddF l k i d s) {Q : Exit → Act → World → Prop} (hQ : ∀ X a w, Q X a w → X = .normal) : ∀ (f : Nat) (L : Array Bool) (a : Act) (w : World) (v : Value), v = a.tmps.getD s undef → L.getD i true = false →
    wpAny P .any (addE l k i).toArray Q f (L.setIfInBounds i true) (a.put (some d) v) w → wpAny P .any l.toArray Q (f + 1) L a w := by
  intro f
  induction f with
  | zero =>
    intro L a w v hv hu h
    refine ⟨fun he => ?_, fun j hj => ?_⟩
    · obtain ⟨o, ho, _, _, hb⟩ := F.mv
      have : i ∈ Region.ready .any l.toArray L := ready_mem.2 ⟨o, ho, hu, fun e he h => by rw [hb e he] at h; cases h⟩
      rw [he] at this
      cases this
    · obtain ⟨oj, hoj, hju, h3⟩ := ready_mem.1 hj
      by_cases hji : j = i
      · subst hji
        obtain ⟨o, ho, hop, hod, hb⟩ := F.mv
        obtain rfl : oj = o := Option.some.inj (hoj.symm.trans ho)
        have hLi : (L.setIfInBounds j true).getD j false = true := getD_set_self hu
        unfold wpOp
        rw [List.getElem?_toArray, hoj]
        simp only
        rw [if_pos (wanted_free (F.guard j oj hoj) _)]
        left
        unfold Oper.wp
        rw [move_run hop]
        simp only [Oper.upon, hod]
        rw [Act.eval, ← hv]
        refine ⟨?_, h.2⟩
        rw [List.eq_nil_iff_forall_not_mem]
        intro m hm
        have := (ready_same F hLi m).1 hm
        rw [h.1] at this
        cases this
      · exfalso
        have hLi : (L.setIfInBounds i true).getD i false = true := getD_set_self hu
        have : j ∈ Region.ready .any (addE l k i).toArray (L.setIfInBounds i true) := by
          rw [← ready_same F hLi]
          refine ready_mem.2 ⟨oj, hoj, by rw [getD_set_other (fun e => hji e.symm)]; exact hju, fun e he hb => ?_⟩
          have h4 := h3 e he hb
          by_cases hei : e.on = i
          · rw [hei]; exact hLi
          · rw [getD_set_other (fun e' => hei e'.symm)]; exact h4
        rw [h.1] at this
        cases this
  | succ f ih =>
    intro L a w v hv hu h
    have hLi : (L.setIfInBounds i true).getD i false = true := getD_set_self hu
    refine ⟨fun he => ?_, fun j hj => ?_⟩
    · obtain ⟨o, ho, _, _, hb⟩ := F.mv
      have : i ∈ Region.ready .any l.toArray L := ready_mem.2 ⟨o, ho, hu, fun e he h => by rw [hb e he] at h; cases h⟩
      rw [he] at this
      cases this
    · obtain ⟨oj, hoj, hju, h3⟩ := ready_mem.1 hj
      by_cases hji : j = i
      · subst hji
        obtain ⟨o, ho, hop, hod, hb⟩ := F.mv
        obtain rfl : oj = o := Option.some.inj (hoj.symm.trans ho)
        unfold wpOp
        rw [List.getElem?_toArray, hoj]
        simp only
        rw [if_pos (wanted_free (F.guard j oj hoj) _)]
        left
        unfold Oper.wp
        rw [move_run hop]
        simp only [Oper.upon, hod]
        rw [Act.eval, ← hv]
        exact same F hQ _ _ _ _ hLi h
      · have hj' : j ∈ Region.ready .any (addE l k i).toArray (L.setIfInBounds i true) := by
          rw [← ready_same F hLi]
          refine ready_mem.2 ⟨oj, hoj, by rw [getD_set_other (fun e => hji e.symm)]; exact hju, fun e he hb => ?_⟩
          have h4 := h3 e he hb
          by_cases hei : e.on = i
          · rw [hei]; exact hLi
          · rw [getD_set_other (fun e' => hei e'.symm)]; exact h4
        have h5 := h.2 j hj'
        obtain ⟨A, hA⟩ := addE_op F hoj
        unfold wpOp at h5 ⊢
        rw [List.getElem?_toArray] at h5 ⊢
        rw [hA] at h5
        rw [hoj]
        simp only at h5 ⊢
        rw [if_pos (wanted_free (o := { oj with after := A }) (F.guard j oj hoj) _)] at h5
        rw [if_pos (wanted_free (F.guard j oj hoj) _)]
        left
        have h6 : oj.wp P (a.put (some d) v) w _ Q := left_of hQ h5
        have hno := ready_no F hu hoj hj
        have hlk : ∀ t, t ∈ oj.looksAt l.toArray → (a.put (some d) v).tmps.getD t undef = a.tmps.getD t undef := fun t ht => put_look a fun e => by
          subst e
          have := F.looks j oj hoj hji ht
          rw [hno] at this
          cases this
        have hex := exec_same (ops := l.toArray) (o := oj) (b := a.put (some d) v) (b' := a) (fun cs b => F.sel j oj cs b hoj) hlk
        refine wp_without (v := v) (s := s) (d := d) hQ hex (F.dst j oj hoj hji).1 (F.dst j oj hoj hji).2 hv (fun a1 w1 hv1 h7 => ?_) h6
        refine ih _ a1 w1 v hv1 (by rw [getD_set_other hji]; exact hu) ?_
        rw [set_true_comm]
        exact h7
/-- The region with the edge serves the region without. -/
theorem add_any (F : AddF l k i d s) {Q : Exit → Act → World → Prop} (hQ : ∀ X a w, Q X a w → X = .normal) (f : Nat) (L : Array Bool) (a : Act) (w : World) (hu : L.getD i true = false)
    (h : wpAny P .any (addE l k i).toArray Q f L a w) : wpAny P .any l.toArray Q f L a w := by
  cases f with
  | zero =>
    have := ready_i F hu
    rw [h.1] at this
    cases this
  | succ f =>
    have h1 := h.2 i (ready_i F hu)
    obtain ⟨o, ho, hop, hod, hb⟩ := F.mv
    unfold wpOp at h1
    rw [List.getElem?_toArray, addE_ne F.ne, ho] at h1
    simp only at h1
    rw [if_pos (wanted_free (F.guard i o ho) _)] at h1
    have h2 := left_of hQ h1
    unfold Oper.wp at h2
    rw [move_run hop] at h2
    simp only [Oper.upon, hod] at h2
    exact later F hQ f L a w _ rfl hu h2
/-- A region that ends, and does not panic. -/
def Nrm (Q : Exit → Act → World → Prop) (X : Exit) (a : Act) (w : World) : Prop := X = .normal ∧ Q X a w
theorem nrm {Q : Exit → Act → World → Prop} {a : Act} {w : World} (h : Q .normal a w) : Nrm Q .normal a w := ⟨rfl, h⟩
/-- A region that draws its order, told with one edge more. -/
theorem wp_region_sqE {id : Nat} {Q : Exit → Act → World → Prop} {a : Act} {w : World} (k i d s : Nat) (l' : List Oper) (hl' : addE l k i = l') (n : Nat) (ps : List Nat) (Ext : World → World → Prop) (Post : Nat → Value → World → Prop) (hm : P.follows .mixedOrders = true)
    (hp : addB l k i d s = true) (hB : sqB l' n a.tmps.size ps = true) (hrefl : ∀ w, Ext w w) (htrans : ∀ a b c, Ext a b → Ext b c → Ext a c) (stable : ∀ i v w w', Post i v w → Ext w w' → Post i v w')
    (h : SqW P l' ps Ext w.drew Post (fun a' => ∀ w', Ext w.drew w' → (∀ j d, j < n → ps.contains j = true → (l'[j]?).bind (·.dst) = some d → (∀ o', l'[j]? = some o' → Region.wanted o' (yielded l'.toArray a'.tmps) = true) → Post j (a'.tmps.getD d undef) w') →
      wpList P l'.toArray (Nrm Q) (l'.drop n) a' w') 0 (l'.take n) a) : (Code.region id l.toArray true).wp P Q a w := by
  have F := addF_of hp
  refine Code.wp_mono (Q := Nrm Q) (fun _ _ _ h => h.2) (wp_region_any hm ?_)
  have h1 := SqP.any_sq (Q := Nrm Q) n ps Ext Post hB hrefl htrans stable h
  subst hl'
  have hlen : (addE l k i).toArray.size = l.toArray.size := by simp [addE_len]
  rw [hlen] at h1
  refine add_any F (fun _ _ _ h => h.1) _ _ _ _ ?_ h1
  obtain ⟨o, ho, _⟩ := F.mv
  exact getD_in (by simpa using (List.getElem?_eq_some_iff.1 ho).1) (getD_replicate_false _ _)
end
end Go.Own.SqE
end
/- journal: two rows grow in one statement. -/
section
namespace Go.Proofs.YtbmnbdkbgpajeaaGreatDoor
open Go.RowKit Go.Own Go.Jn Go.Disk Go.BigFrame Go.Sha
/-- the rows that a statement with two appends keeps -/
def goodA (m : Nat) (X : List Value) (u : Value) (Y : List Value) (y : Value) (e : TypeId) (size k : Nat) (Z : List Value) : Prop :=
  (e = 3 ∧ size = 1 ∧ (k = 1 ∧ Z = [u] ∨ k = m ∧ Z = X ∨ k = m + 1 ∧ Z = X ++ [u])) ∨ (e = 9 ∧ size = 1 ∧ (k = 1 ∧ Z = [y] ∨ k = m ∧ Z = Y ∨ k = m + 1 ∧ Z = Y ++ [y]))
theorem goodA_size {m : Nat} {X : List Value} {u : Value} {Y : List Value} {y : Value} {e : TypeId} {size k : Nat} {Z : List Value} (h : goodA m X u Y y e size k Z) : size = 1 := by
  rcases h with ⟨_, h, _⟩ | ⟨_, h, _⟩ <;> exact h
theorem last_of {m : Nat} {X : List Value} {u : Value} (hX : X.length = m) {k : Nat} {Z : List Value} (h : k = 1 ∧ Z = [u] ∨ k = m ∧ Z = X ∨ k = m + 1 ∧ Z = X ++ [u]) : ∀ z, Z[m]? = some z → z = u := fun z hz => by
  rcases h with ⟨_, rfl⟩ | ⟨_, rfl⟩ | ⟨_, rfl⟩
  · have := (List.getElem?_eq_some_iff.1 hz).1
    have h0 : m = 0 := by simpa using this
    subst h0
    simpa using hz.symm
  · rw [List.getElem?_eq_none (by omega)] at hz; cases hz
  · rw [List.getElem?_append_right (by omega), hX, Nat.sub_self] at hz
    simpa using hz.symm
theorem goodA_int {m : Nat} {X : List Value} {u : Value} {Y : List Value} {y : Value} (hX : X.length = m) : ∀ k Z, goodA m X u Y y 3 1 k Z → ∀ z, Z[m]? = some z → z = u := fun k Z h => by
  rcases h with ⟨_, _, h⟩ | ⟨h, _⟩
  · exact last_of hX h
  · exact absurd h (by decide)
theorem goodA_str {m : Nat} {X : List Value} {u : Value} {Y : List Value} {y : Value} (hY : Y.length = m) : ∀ k Z, goodA m X u Y y 9 1 k Z → ∀ z, Z[m]? = some z → z = y := fun k Z h => by
  rcases h with ⟨h, _⟩ | ⟨_, _, h⟩
  · exact absurd h (by decide)
  · exact last_of hY h
/-- the blocks that two appends may write -/
def ownF (a b : Value) : List Nat := a.ownBlock.toList ++ b.ownBlock.toList
theorem ownF_l {a b : Value} {k : Nat} (h : a.ownBlock = some k) : k ∈ ownF a b := by simp [ownF, h]
theorem ownF_r {a b : Value} {k : Nat} (h : b.ownBlock = some k) : k ∈ ownF a b := by simp [ownF, h]
theorem own_cell1 {w : World} {base : Nat} {e : TypeId} {b c : Nat} {u : Value} (h : w.ownsRow base e 1 (.slice (some ⟨b, 0, none⟩) 1 c) 1 [u]) : w.cell? ⟨b, 0, none⟩ = some u := by
  obtain ⟨g, cap, sp, hv, _, _, _, hB⟩ := own_blk h (by decide)
  injection hv with hv
  injection hv with hv
  injection hv with hv
  subst hv
  exact hB.cell rfl
theorem buildOne_exec {o : Oper} {ρ : Operand → Value} {e : TypeId} {v : Value} {W : World} (h : (execOp ρ o).run Tryz.prog W = .ok (.value (.slice (some ⟨W.heap.size, 0, none⟩) 1 1)) (W.alloc (.cells #[v] e))) {R : Value → World → Prop} {F : List Nat} {good : TypeId → Nat → Nat → List Value → Prop} {B : Nat} (hB : B ≤ W.heap.size)
    (hR : ∀ b W', W.heap.size ≤ b → W'.ownsRow B e 1 (.slice (some ⟨b, 0, none⟩) 1 1) 1 [v] → ExtA F B good W W' → R (.slice (some ⟨b, 0, none⟩) 1 1) W') : Own.Yields Tryz.prog o ρ W R :=
  yields_value h (hR _ _ (Nat.le_refl _) (own_new W #[v] e 1 B rfl (by decide) hB) (ExtA.of (alloc_below _ _)))
end Go.Proofs.YtbmnbdkbgpajeaaGreatDoor
end
