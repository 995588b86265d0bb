/- order: both Checks at lists of any length; the law OrderChecks. -/
import Derived.Test.YtnkinjilnccmfaaN3
import Derived.Test.YtnkinjilnccmfaaG2
import Derived.Laws.AppendOwnNone
namespace Go.Own
open Go.RowKit
/-- 'append(s, x...)' with no element: s, as it was. -/
theorem wpList_append_zero {P : Program} {w : World} {ops : Array Oper} {rest : List Oper} {o : Oper} {a : Act} {Q : Exit → Act → World → Prop} (hgd : o.guard = none) (s x : Operand) (t : TypeId)
    (ho : o.op = .call { callee := .builtin .append, args := #[s, x], argTypes := #[t, t] })
    (base : Nat) (e : TypeId) (i : TypeInfo) (size : Nat) (ht : P.underlying t = some (.slice e)) (hi : P.info? e = some i)
    (v : Value) (n : Nat) (xs : List Value) (hs : a.eval s = v) (hown : w.ownsRow base e size v n xs) (sx : Option Addr) (cx : Nat) (hx : a.eval x = .slice sx 0 cx)
    (h : wpList P ops Q rest (a.put o.dst v) w) : wpList P ops Q (o :: rest) a w :=
  wpList_plain hgd fun _ hK => by
    have hl : ∀ (y : Addr), (loadCells y 0).run P w = .ok #[] w := fun y => by simpa using run_loadCells_list (P := P) w y [] (by simp)
    have hf : (Builtin.firstCells i.size 0 (.slice sx 0 cx)).run P w = .ok #[] w := by
      cases sx with
      | none => rfl
      | some y => simp only [Builtin.firstCells, Nat.zero_mul]; exact hl y
    have hr : (Builtin.append_ #[t, t] o.type #[v, .slice sx 0 cx]).run P w = .ok v w := by
      rcases hown.2 with ⟨rfl, rfl⟩ | ⟨g, cap, cur, rfl, _, _, hnc, _⟩
      · simp [Builtin.append_, run_underlying ht, sizeOf, typeInfo, hi, Builtin.lenOf, hf, Sem.run_bind]
      · simp [Builtin.append_, run_underlying ht, sizeOf, typeInfo, hi, Builtin.lenOf, hf, hnc, Sem.run_bind, storeCells]
    unfold Oper.wp execOp
    simp only [ho, resolve, invoke, builtin, Sem.run_bind, Sem.run_pure, Result.andThen_ok, List.map_toArray, List.map_cons, List.map_nil, hs, hx, hr]
    exact hK _ _ h
/-- 'append(s, x...)', s the call's own, x any slice of numbers, which reads if it is not empty. -/
theorem wpList_append_sz {P : Program} {w : World} {ops : Array Oper} {rest : List Oper} {o : Oper} {a : Act} {Q : Exit → Act → World → Prop} (hgd : o.guard = none) (s x : Operand) (t : TypeId)
    (ho : o.op = .call { callee := .builtin .append, args := #[s, x], argTypes := #[t, t] })
    (base : Nat) (e : TypeId) (z : Value) (bytes : Nat) (ht : P.underlying t = some (.slice e)) (hi : (P.info? e).map (fun i => (i.zero, i.size, i.bytes)) = some (some z, 1, bytes))
    (hzs : z.cells.size = 1)
    (v : Value) (n : Nat) (xs : List Value) (hs : a.eval s = v) (hown : w.ownsRow base e 1 v n xs)
    (sx : Option Addr) (m cx : Nat) (news : List Value) (hx : a.eval x = .slice sx m cx) (hsl : 0 < m → Sl w 1 (.slice sx m cx) m news) (hnl : news.length = m) (h1 : ∀ u ∈ news, u.oneCell' = true)
    (h63 : n + m ≤ maxLen) (hbytes : (n + m) * bytes ≤ 140737488355328) (hbase : base ≤ w.heap.size)
    (h : ∀ v' w', w'.ownsRow base e 1 v' (n + m) (xs ++ news) → w.grownBy w' v.ownBlock → wpList P ops Q rest (a.put o.dst v') w') : wpList P ops Q (o :: rest) a w := by
  rcases Nat.eq_zero_or_pos m with h0 | h0
  · subst h0
    have hn : news = [] := List.eq_nil_of_length_eq_zero hnl
    subst hn
    obtain ⟨i, hi1, hi2, hi3, hi4⟩ := info_parts hi
    exact wpList_append_zero hgd s x t ho base e i 1 ht hi1 v n xs hs hown sx cx hx (h v w (by simpa using hown) (World.grownBy.refl _ _))
  · exact wpList_append_sl hgd s x t ho base e z 1 bytes ht hi hzs (by decide) v n xs hs hown _ m news hx (hsl h0) h1 h63 hbytes hbase h
end Go.Own
namespace Go.Own
theorem rg_wf64 {z : Int} (h : (Lit.int .i64 z).wf = true) : -9223372036854775808 ≤ z ∧ z < 9223372036854775808 := by
  unfold Lit.wf at h
  rw [Bool.and_eq_true, decide_eq_true_eq, decide_eq_true_eq] at h
  have h1 : IntKind.i64.min = -9223372036854775808 := by decide
  have h2 : IntKind.i64.max = 9223372036854775807 := by decide
  omega
end Go.Own
namespace Go.Order
open Go.RowKit Go.Own Go.Proofs.Ytnkinjilnccmfaa Go.Theory
theorem findV_l16 (whole : Int) (may : List Spl) (st : List Int) : (findV whole may st).l.length ≤ 16 := by
  unfold findV
  split
  · rename_i h
    obtain ⟨_, _, hw, _, hok⟩ := errV_ok h
    split
    · have hb : 1 ≤ whole.toNat ∧ whole.toNat < 65536 := by unfold isB at hw; simp at hw; omega
      have h1 := tre_len (st := st) hok 65536 whole.toNat hb.1 hb.2
      have h2 := Theory.pop_le16 whole.toNat
      show (tre may st 65536 whole.toNat).length ≤ _; omega
    · exact Nat.zero_le _
  · exact Nat.zero_le _
set_option maxRecDepth 100000 in
theorem findV_s16 (whole : Int) (may : List Spl) (st : List Int) : (findV whole may st).s.length < 70000 := by
  have h := canL_len may st
  unfold findV
  split
  · split
    · exact (by decide : 0 < 70000)
    · exact Nat.lt_of_le_of_lt h (by decide)
  · exact (by decide : 0 < 70000)
end Go.Order
namespace Go.Proofs.Ytnkinjilnccmfaa
open Go.RowKit Go.Own Go.BigFrame Go.Big Go.Order
set_option maxRecDepth 100000 in
set_option maxHeartbeats 3200000 in
theorem check_at (whole : Int) (may l : List Spl) (st : List Int) (s t u : Option Addr) (ca cb cc : Nat) (w : World) (hl : Lst w (.slice s may.length ca) may) (hm : Sz w (.slice t st.length cb) st.length (intsI st)) (hL : Lst w (.slice u l.length cc) l) (nl : l.length < 1000000) :
    Calls Try.prog 17 #[.int .i64 whole, .slice s may.length ca, .slice t st.length cb, .slice u l.length cc] w fun e w' => e = .returned (.tuple #[.int .i64 (chkV whole may st l).1, .int .i64 (chkV whole may st l).2]) ∧ Below w.heap.size w w' := by
  by_cases h0 : errV whole may st = 0
  · obtain ⟨a1, a2, _⟩ := errV_ok h0
    exact check_any whole may l st s t u ca cb cc w hl hm hL (by omega) (by omega) nl
  obtain ⟨W1, hW1⟩ : ∃ W1, W1 = w.alloc (.cells #[.slice s may.length ca] 23) := ⟨_, rfl⟩
  obtain ⟨W2, hW2⟩ : ∃ W2, W2 = W1.alloc (.cells #[.slice t st.length cb] 24) := ⟨_, rfl⟩
  obtain ⟨W3, hW3⟩ : ∃ W3, W3 = W2.alloc (.cells #[.slice u l.length cc] 23) := ⟨_, rfl⟩
  have z1 : W1.heap.size = w.heap.size + 1 := by rw [hW1]; exact alloc_size _ _
  have z2 : W2.heap.size = w.heap.size + 1 + 1 := by rw [hW2, alloc_size, z1]
  have b1 : Below w.heap.size w W1 := by rw [hW1]; exact alloc_below _ _
  have b2 : Below W1.heap.size W1 W2 := by rw [hW2]; exact alloc_below _ _
  have b3 : Below W2.heap.size W2 W3 := by rw [hW3]; exact alloc_below _ _
  have b23 : Below W1.heap.size W1 W3 := b2.trans (b3.mono b2.size)
  have b03 : Below w.heap.size w W3 := b1.trans (b23.mono b1.size)
  have B1 : Blk W3 w.heap.size [.slice s may.length ca] 23 := (by rw [hW1]; exact Blk.new w #[.slice s may.length ca] 23 : Blk W1 w.heap.size [.slice s may.length ca] 23).below b23 (by omega)
  have B2 : Blk W3 (w.heap.size + 1) [.slice t st.length cb] 24 := by
    have : Blk W2 W1.heap.size [.slice t st.length cb] 24 := by rw [hW2]; exact Blk.new W1 #[.slice t st.length cb] 24
    rw [z1] at this
    exact this.below b3 (by omega)
  have hf := fits_any whole may st s t ca cb W3 (hl.below b03) (hm.below b03)
  have q1 : W3.cell? ⟨w.heap.size, 0, none⟩ = some (.slice s may.length ca) := B1.cell rfl
  have q2 : W3.cell? ⟨w.heap.size + 1, 0, none⟩ = some (.slice t st.length cb) := B2.cell rfl
  have hce : chkV whole may st l = (0, errV whole may st) := by unfold chkV; rw [if_neg h0]
  obtain ⟨E, hE⟩ : ∃ E, E = errV whole may st := ⟨_, rfl⟩
  rw [← hE] at hf hce h0
  rw [hW3, hW2, hW1] at q1 q2
  have HF := Lib.hid hf; clear hf
  have HB03 := Lib.hid b03; clear b03 b1 b2 b3 b23 B1 B2 hl hm hL nl
  have HW1 := Lib.hid hW1; clear hW1
  have HW2 := Lib.hid hW2; clear hW2
  have HW3 := Lib.hid hW3; clear hW3
  have HCE := Lib.hid hce; clear hce z1 z2
  have h1 : (E != 0) = true := by rw [bne_iff_ne]; exact h0
  have h2 : (E = 0) = False := eq_false h0
  clear h0 hE
  go_enter Try.func17, Try.ntmps17
  go_wp2_with (fail)
  rw [← HW1.out, ← HW2.out, ← HW3.out]
  clear q1 q2
  refine HF.out.mono ?_
  rintro e V ⟨rfl, bV⟩
  go_wp2
  go_ret2
  exact ⟨by rw [HCE.out]; rfl, HB03.out.trans (bV.mono HB03.out.size)⟩
set_option maxRecDepth 100000 in
set_option maxHeartbeats 3200000 in
theorem rcheck_at (whole : Int) (may l : List Spl) (st : List Int) (s t u : Option Addr) (ca cb cc : Nat) (w : World) (hl : Lst w (.slice s may.length ca) may) (hm : Sz w (.slice t st.length cb) st.length (intsI st)) (hL : Lst w (.slice u l.length cc) l) (nl : l.length < 1000000) :
    Calls Try.prog 18 #[.int .i64 whole, .slice s may.length ca, .slice t st.length cb, .slice u l.length cc] w fun e w' => e = .returned (.tuple #[.int .i64 (chkV whole may st l).1, .int .i64 (chkV whole may st l).2]) ∧ Below w.heap.size w w' := by
  by_cases h0 : errV whole may st = 0
  · obtain ⟨a1, a2, _⟩ := errV_ok h0
    exact rcheck_any whole may l st s t u ca cb cc w hl hm hL (by omega) (by omega) nl
  have hf := rerror_any whole may st s t ca cb w hl hm
  have hce : chkV whole may st l = (0, errV whole may st) := by unfold chkV; rw [if_neg h0]
  obtain ⟨E, hE⟩ : ∃ E, E = errV whole may st := ⟨_, rfl⟩
  rw [← hE] at hf hce h0
  have HF := Lib.hid hf; clear hf hl hm hL nl
  have HCE := Lib.hid hce; clear hce
  have h1 : (E != 0) = true := by rw [bne_iff_ne]; exact h0
  have h2 : (E = 0) = False := eq_false h0
  clear h0 hE
  go_enter Try.func18, Try.ntmps18
  go_wp2_with (fail)
  refine HF.out.mono ?_
  rintro e V ⟨rfl, bV⟩
  go_wp2
  go_ret2
  exact ⟨by rw [HCE.out]; rfl, bV⟩
end Go.Proofs.Ytnkinjilnccmfaa
