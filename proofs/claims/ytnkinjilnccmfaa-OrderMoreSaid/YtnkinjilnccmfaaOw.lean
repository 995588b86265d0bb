/- Slices in new blocks: made, appended to. Any program. -/
import Derived.Test.YtnkinjilnccmfaaMp
import Derived.Laws.MakeOwn
import Derived.WideMake
import Derived.Carry
namespace Go.Own
open Go.RowKit Go.MapKept
theorem sl_new (w : World) (c : Array Value) (t : TypeId) (n : Nat) (hn : c.size = n) (hm : n ≤ maxLen) : Sl (w.alloc (.cells c t)) 1 (.slice (some ⟨w.heap.size, 0, none⟩) n n) n c.toList :=
  ⟨by simp [hn], .inr ⟨_, 0, n, rfl, Nat.le_refl _, hm, (Blk.new w c t).cells0, by simp⟩⟩
theorem Sl.alloc {w : World} {size n : Nat} {v : Value} {vs : List Value} (h : Sl w size v n vs) (o : Obj) : Sl (w.alloc o) size v n vs := h.below ((Below.refl _ _).alloc (Nat.le_refl _) _)
theorem own_new (w : World) (c : Array Value) (t : TypeId) (n base : Nat) (hn : c.size = n) (hm : n ≤ maxLen) (hb : base ≤ w.heap.size) : (w.alloc (.cells c t)).ownsRow base t 1 (.slice (some ⟨w.heap.size, 0, none⟩) n n) n c.toList :=
  ⟨by simp [hn], .inr ⟨_, n, c, rfl, hb, heap_alloc_new _ _, Nat.le_refl _, hm, by simp [hn], List.take_of_length_le (by simp [hn])⟩⟩
theorem own_new_at (w : World) (c : Array Value) (t : TypeId) (n base g : Nat) (hg : g = w.heap.size) (hn : c.size = n) (hm : n ≤ maxLen) (hb : base ≤ w.heap.size) : (w.alloc (.cells c t)).ownsRow base t 1 (.slice (some ⟨g, 0, none⟩) n n) n c.toList := by
  subst hg; exact own_new w c t n base hn hm hb
theorem sl_new_at (w : World) (c : Array Value) (t : TypeId) (n g : Nat) (hg : g = w.heap.size) (hn : c.size = n) (hm : n ≤ maxLen) : Sl (w.alloc (.cells c t)) 1 (.slice (some ⟨g, 0, none⟩) n n) n c.toList := by
  subst hg; exact sl_new w c t n hn hm
/-- A slice value's length. -/
def sLen : Value → Nat | .slice _ n _ => n | _ => 0
theorem own_len {w : World} {base size n : Nat} {e : TypeId} {v : Value} {xs : List Value} (h : w.ownsRow base e size v n xs) : sLen v = n := by
  obtain ⟨_, ⟨rfl, rfl⟩ | ⟨g, cap, cur, rfl, _⟩⟩ := h <;> rfl
theorem own_slice {w : World} {base n size : Nat} {e : TypeId} {v : Value} {xs : List Value} (h : w.ownsRow base e size v n xs) : ∃ sa cap, v = .slice sa n cap ∧ ∀ b, v.ownBlock = some b → base ≤ b := by
  obtain ⟨h1, ⟨h2, h3⟩ | ⟨g, cap, cur, h2, h3, _⟩⟩ := h
  · exact ⟨none, 0, by rw [h2, h3], fun b hb => by rw [h2] at hb; cases hb⟩
  · exact ⟨_, _, h2, fun b hb => by
      rw [h2] at hb
      have : g = b := by simpa [Value.ownBlock] using hb
      omega⟩
theorem sl_slice {w : World} {n size : Nat} {v : Value} {xs : List Value} (h : Sl w size v n xs) : ∃ sa cap, v = .slice sa n cap ∧ n ≤ cap ∧ cap ≤ maxLen := by
  obtain ⟨_, ⟨rfl, rfl⟩ | ⟨b, off, cap, rfl, h1, h2, _⟩⟩ := h
  · exact ⟨none, 0, rfl, Nat.le_refl _, Nat.zero_le _⟩
  · exact ⟨_, cap, rfl, h1, h2⟩
/-- A row of the call's own that is not empty: its block whole, with what is spare. -/
theorem own_blk {w : World} {base n size : Nat} {e : TypeId} {v : Value} {xs : List Value} (h : w.ownsRow base e size v n xs) (hn : 0 < n) :
    ∃ g cap sp, v = .slice (some ⟨g, 0, none⟩) n cap ∧ base ≤ g ∧ n ≤ cap ∧ cap ≤ maxLen ∧ Blk w g (xs ++ sp) e := by
  obtain ⟨h1, ⟨h2, h3⟩ | ⟨g, cap, cur, h2, h3, h4, h5, h6, h7, h8⟩⟩ := h
  · omega
  · refine ⟨g, cap, cur.toList.drop (n * size), h2, h3, h5, h6, ?_⟩
    unfold Blk
    rw [h4, ← h8, List.take_append_drop]
theorem madeCells_rep (v : Value) (k n : Nat) (hk : 0 < k) : madeCells (List.replicate k v).toArray n = (List.replicate n v).toArray := by
  unfold madeCells
  apply Array.ext
  · simp
  · intro i h1 h2
    have : i % k < k := Nat.mod_lt _ hk
    simp [this]
theorem madeCells_one (v : Value) (n : Nat) : madeCells #[v] n = (List.replicate n v).toArray := madeCells_rep v 1 n (by decide)
theorem set_rep {α : Type} (l : List α) (z : α) {k n : Nat} (hk : k < n) (hl : l.length = n) : ((l.take k) ++ List.replicate (n - k) z).set k l[k] = l.take (k + 1) ++ List.replicate (n - (k + 1)) z := by
  apply List.ext_getElem?
  intro j
  have h1 : (l.take k).length = k := by simp; omega
  have h2 : (l.take (k + 1)).length = k + 1 := by simp; omega
  rw [List.getElem?_set]
  by_cases e : k = j
  · subst e
    rw [if_pos rfl, if_pos (by simp; omega), List.getElem?_append_left (by omega)]
    simp
  · rw [if_neg e]
    by_cases h : j < k
    · rw [List.getElem?_append_left (by omega), List.getElem?_append_left (by omega), List.getElem?_take_of_lt h, List.getElem?_take_of_lt (by omega)]
    · rw [List.getElem?_append_right (by omega), List.getElem?_append_right (by omega), h1, h2, List.getElem?_replicate, List.getElem?_replicate]
      by_cases h3 : j < n
      · rw [if_pos (by omega), if_pos (by omega)]
      · rw [if_neg (by omega), if_neg (by omega)]
/-- 'make([]T, n)', T of one cell. -/
theorem run_make_one {P : Program} {T e : TypeId} (z : Value) (by' : Nat) (hT : P.underlying T = some (.slice e)) (hi : (P.info? e).map (fun i => (i.zero, i.size, i.bytes)) = some (some z, 1, by')) (hz : z.cells = #[z]) (n : Nat) (hn : by' * n ≤ 140737488355328) (hn2 : n ≤ maxLen) (u : World) :
    (Instr.makeSlice T (.int .i64 n) (.int .i64 n)).run P u = .ok (.slice (some ⟨u.heap.size, 0, none⟩) n n) (u.alloc (.cells (Array.replicate n z) e)) := by
  obtain ⟨i, hi1, hi2, hi3, hi4⟩ := info_parts hi
  have h2 : ((by' : Int) * (n : Int)) ≤ 140737488355328 := by
    have h : ((by' * n : Nat) : Int) ≤ 140737488355328 := by omega
    rwa [Int.natCast_mul] at h
  have h3 : (n : Int) ≤ 9223372036854775807 := by unfold maxLen at hn2; omega
  have := run_make (P := P) u T e i z hT hi1 hi2 .i64 .i64 n n (by omega) (Int.le_refl _) (by rw [hi4]; omega) h3
  rw [this, hi3, hz]
  simp only [Int.toNat_natCast, Nat.mul_one]
  rw [madeCells_one, List.toArray_replicate]
theorem blk_make (w : World) (n : Nat) (z : Value) (e : TypeId) : Blk (w.alloc (.cells (Array.replicate n z) e)) w.heap.size (List.replicate n z) e := by
  have := Blk.new w (Array.replicate n z) e
  rwa [Array.toList_replicate] at this
theorem alloc_below (w : World) (o : Obj) : Below w.heap.size w (w.alloc o) := (Below.refl _ _).alloc (Nat.le_refl _) _
theorem alloc_size (w : World) (o : Obj) : (w.alloc o).heap.size = w.heap.size + 1 := World.size_alloc _ _
/-- A cell of a block above B is set: below B nothing turns. -/
theorem below_set {B g : Nat} {W w : World} (h : Below B W w) (hB : B ≤ W.heap.size) (hg : B ≤ g) (i : Nat) (v : Value) : Below B W (w.setCell ⟨g, i, none⟩ v) :=
  h.trans (((Chg.refl [g] w).set (a := ⟨g, i, none⟩) v (by simp)).below (Nat.le_trans hB h.size) (by simpa using hg))
theorem eqlIn_slice_nil {P : Program} (w : World) (d : Nat) (t e : TypeId) (a : Option Addr) (l c : Nat) (h : P.underlying t = some (.slice e)) : (Op.equalIn (d + 1) t (.slice a l c) (.slice none 0 0)).run P w = .ok a.isNone w := by
  cases a <;> simp [Op.equalIn, run_underlying h]
theorem eql_slice_nil {P : Program} (w : World) (t e : TypeId) (a : Option Addr) (l c : Nat) (h : P.underlying t = some (.slice e)) : (binOp .eql t (.slice a l c) (.slice none 0 0)).run P w = .ok (.bool a.isNone) w := by
  simp only [binOp]
  simp [show Op.equal t (.slice a l c) (.slice none 0 0) = Op.equalIn (9999 + 1) t (.slice a l c) (.slice none 0 0) from rfl, eqlIn_slice_nil w 9999 t e a l c h]
section
variable {P : Program}
/-- A struct or an array is loaded whole. -/
theorem wpList_load_agg {ops : Array Oper} {rest : List Oper} {o : Oper} {a : Act} {w : World} {Q : Exit → Act → World → Prop} {g off : Nat} (vs : List Value) {ty : TypeId} {x : Operand}
    (hC : Cells w g off vs) (hgd : o.guard = none) (ho : o.op = .load ty x) (hx : a.eval x = .pointer (some ⟨g, off, none⟩))
    (hd : (match P.underlying ty with | some (.struct _) | some (.array _ _) => true | _ => false) = true) (hi : (P.info? ty).map (·.size) = some vs.length)
    (h : wpList P ops Q rest (a.put o.dst (.agg vs.toArray)) w) : wpList P ops Q (o :: rest) a w := by
  cases hu : P.underlying ty with
  | none => rw [hu] at hd; cases hd
  | some d => exact wpList_load_cells (d := d) hC hgd ho hx hu (by rw [hu] at hd; cases d <;> simp_all) hi rfl h
theorem run_load_agg {w : World} {g off : Nat} {vs : List Value} {ty : TypeId} (hC : Cells w g off vs) (hd : (match P.underlying ty with | some (.struct _) | some (.array _ _) => true | _ => false) = true) (hi : (P.info? ty).map (·.size) = some vs.length) :
    (loadVar ty ⟨g, off, none⟩).run P w = .ok (.agg vs.toArray) w := by
  cases hu : P.underlying ty with
  | none => rw [hu] at hd; cases hd
  | some d => exact run_loadVar_cells (d := d) hC hu (by rw [hu] at hd; cases d <;> simp_all) hi rfl
end
theorem Chg.pre_drew {F : List Nat} {w w' : World} (h : Chg F w.drew w') : Chg F w w' := ((Chg.refl F w).drew).trans h
theorem load_agg_exec {P : Program} {o : Oper} {ρ : Operand → Value} {x : Operand} {ty : TypeId} {p : Addr} {v : Value} {w : World} (ho : o.op = .load ty x) (hx : ρ x = .pointer (some p)) (h : (loadVar ty p).run P w = .ok v w) : (execOp ρ o).run P w = .ok (.value v) w := by
  unfold execOp
  simp only [ho, hx, Instr.loadAt, Instr.sureAddr, Sem.run_bind, Sem.run_pure, Result.andThen_ok, h]
theorem own_below {w w' : World} {base size n : Nat} {e : TypeId} {v : Value} {xs : List Value} (h : w.ownsRow base e size v n xs) (hb : Below w.heap.size w w') : w'.ownsRow base e size v n xs := by
  refine ⟨h.1, ?_⟩
  rcases h.2 with hn | ⟨g, cap, cur, rfl, hg, hgg, rest⟩
  · exact .inl hn
  · exact .inr ⟨g, cap, cur, rfl, hg, by rw [hb.block g (Array.getElem?_eq_some_iff.1 hgg).1]; exact hgg, rest⟩
theorem own_chg {F : List Nat} {w w' : World} {base size n : Nat} {e : TypeId} {v : Value} {xs : List Value} (h : w.ownsRow base e size v n xs) (hb : Chg F w w') (hF : ∀ b, v.ownBlock = some b → b ∉ F) : w'.ownsRow base e size v n xs := by
  refine ⟨h.1, ?_⟩
  rcases h.2 with hn | ⟨g, cap, cur, rfl, hg, hgg, rest⟩
  · exact .inl hn
  · exact .inr ⟨g, cap, cur, rfl, hg, by rw [hb.block g (Array.getElem?_eq_some_iff.1 hgg).1 (hF g rfl)]; exact hgg, rest⟩
theorem own_weaken {w : World} {base base' size n : Nat} {e : TypeId} {v : Value} {xs : List Value} (h : w.ownsRow base e size v n xs) (hb : base' ≤ base) : w.ownsRow base' e size v n xs := by
  refine ⟨h.1, ?_⟩
  rcases h.2 with hn | ⟨g, cap, cur, rfl, hg, rest⟩
  · exact .inl hn
  · exact .inr ⟨g, cap, cur, rfl, Nat.le_trans hb hg, rest⟩
end Go.Own
