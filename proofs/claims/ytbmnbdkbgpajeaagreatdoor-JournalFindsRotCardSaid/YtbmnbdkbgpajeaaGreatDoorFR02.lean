/- Slices that are read, slices that the call owns, strings as lists of bytes: laws for the walk. -/
import Derived.Test.YtbmnbdkbgpajeaaGreatDoorFR01
import Derived.Laws.AppendOwnNone
import Derived.Lib.AppendStr
import Derived.Lib.ConvBytes
import Derived.Laws.BytesArg
/- Slices that are read, slices that the call owns, strings as lists of bytes: laws for the walk. -/
section
namespace Go.Own
open Go.RowKit Go.Lib

/-- A slice value of n elements, size cells each, that reads as these cells. -/
def Sl (w : World) (size : Nat) (v : Value) (n : Nat) (vs : List Value) : Prop :=
  vs.length = n * size ∧ ((v = .slice none 0 0 ∧ n = 0) ∨ ∃ b off cap, v = .slice (some ⟨b, off, none⟩) n cap ∧ n ≤ cap ∧ cap ≤ maxLen ∧ Cells w b off vs ∧ b < w.heap.size)

theorem Sl.below {w w' : World} {size n : Nat} {v : Value} {vs : List Value} (h : Sl w size v n vs) (hb : Below w.heap.size w w') : Sl w' size v n vs := by
  obtain ⟨h1, h2 | ⟨b, off, cap, h3, h4, h5, h6, h7⟩⟩ := h
  · exact ⟨h1, .inl h2⟩
  · exact ⟨h1, .inr ⟨b, off, cap, h3, h4, h5, h6.below hb h7, Nat.lt_of_lt_of_le h7 hb.size⟩⟩
theorem Sl.drewN {w : World} {size n : Nat} {v : Value} {vs : List Value} (h : Sl w size v n vs) (k : Nat) : Sl (w.drewN k) size v n vs := h
theorem Sl.drew {w : World} {size n : Nat} {v : Value} {vs : List Value} (h : Sl w size v n vs) : Sl w.drew size v n vs := h

theorem Sl.of_owns {w : World} {base size n : Nat} {e : TypeId} {v : Value} {xs : List Value} (h : w.ownsRow base e size v n xs) : Sl w size v n xs := by
  obtain ⟨h1, ⟨h2, h3⟩ | ⟨g, cap, cur, h2, h3, h4, h5, h6, h7, h8⟩⟩ := h
  · exact ⟨h1, .inl ⟨h2, h3⟩⟩
  · have hg : g < w.heap.size := by
      rcases Nat.lt_or_ge g w.heap.size with h' | h'
      · exact h'
      · rw [Array.getElem?_eq_none h'] at h4; cases h4
    refine ⟨h1, .inr ⟨g, 0, cap, h2, h5, h6, fun i u hi => ?_, hg⟩⟩
    rw [Nat.zero_add, cell_of_row w g i cur e (0, 0) h4]
    have hlt : i < n * size := by have := (List.getElem?_eq_some_iff.1 hi).1; omega
    rw [← h8, List.getElem?_take_of_lt hlt] at hi
    simpa using hi

/-- 'append(s, x...)', s the call's own, x any slice that reads: nil, empty or not. -/
theorem wpList_append_sl {P : Program} {w : World} {ops : Array Oper} {rest : List Oper} {o : Oper} {a : Act} {Q : Exit → Act → World → Prop} (hgd : o.guard = none) (s x : Operand) (t : TypeId)
    (ho : o.op = .call { callee := .builtin .append, args := #[s, x], argTypes := #[t, t] })
    (base : Nat) (e : TypeId) (z : Value) (size bytes : Nat) (ht : P.underlying t = some (.slice e)) (hi : (P.info? e).map (fun i => (i.zero, i.size, i.bytes)) = some (some z, size, bytes))
    (hzs : z.cells.size = size) (hsz : 0 < size)
    (v : Value) (n : Nat) (xs : List Value) (hs : a.eval s = v) (hown : w.ownsRow base e size v n xs)
    (v2 : Value) (m : Nat) (news : List Value) (hx : a.eval x = v2) (hsl : Sl w size v2 m news) (h1 : ∀ u ∈ news, u.oneCell' = true)
    (h63 : n + m ≤ maxLen) (hbytes : (n + m) * bytes ≤ 140737488355328) (hbase : base ≤ w.heap.size)
    (h : ∀ v' w', w'.ownsRow base e size v' (n + m) (xs ++ news) → w.grownBy w' v.ownBlock → wpList P ops Q rest (a.put o.dst v') w') : wpList P ops Q (o :: rest) a w := by
  obtain ⟨i, hi1, hi2, hi3, hi4⟩ := info_parts hi
  obtain ⟨hl, ⟨rfl, rfl⟩ | ⟨b, off, cap, rfl, hc1, hc2, hC, hlt⟩⟩ := hsl
  · obtain rfl : news = [] := List.eq_nil_of_length_eq_zero (by simpa using hl)
    refine wpList_append_own_none hgd s x t ho base e i size ht hi1 v n xs hs hown hx ?_
    exact h v w (by simpa using hown) (World.grownBy.refl _ _)
  · exact wpList_append_own _ hgd s x t ho base e i z size bytes ht hi1 hi2 hi3 hi4 hzs hsz v n xs hs hown ⟨b, off, none⟩ m cap news hx hl (fun j u hj => by rw [Addr.add_lit]; exact hC j u hj) h1 h63 hbytes hbase
      fun v' w' k1 k2 _ => h v' w' k1 k2

theorem Cells.grown {w w' : World} {g off : Nat} {vs : List Value} {row : Option Nat} (h : Cells w g off vs) (hg : w.grownBy w' row) (hlt : g < w.heap.size) (hne : some g ≠ row) : Cells w' g off vs :=
  fun i v hi => (World.cell?_of_block (w := w) (hg.block g hlt hne)).trans (h i v hi)
theorem Blk.grown {w w' : World} {g : Nat} {l : List Value} {t : TypeId} {row : Option Nat} (h : Blk w g l t) (hg : w.grownBy w' row) (hne : some g ≠ row) : Blk w' g l t := by
  unfold Blk; rw [hg.block g h.lt hne]; exact h
theorem Sl.grown {w w' : World} {size n : Nat} {v : Value} {vs : List Value} {row : Option Nat} (h : Sl w size v n vs) (hg : w.grownBy w' row) (hne : ∀ b, v.ownBlock = some b → some b ≠ row) : Sl w' size v n vs := by
  obtain ⟨h1, h2 | ⟨b, off, cap, rfl, h4, h5, h6, h7⟩⟩ := h
  · exact ⟨h1, .inl h2⟩
  · exact ⟨h1, .inr ⟨b, off, cap, rfl, h4, h5, h6.grown hg h7 (hne b rfl), Nat.lt_of_lt_of_le h7 hg.size⟩⟩
/-- What was there when the call began is there behind an append to a row of the call's own. -/
theorem grown_below {w0 w w' : World} {base size n : Nat} {e : TypeId} {v : Value} {xs : List Value} (hb : Below base w0 w) (hown : w.ownsRow base e size v n xs) (hg : w.grownBy w' v.ownBlock) (hbase : base ≤ w.heap.size) : Below base w0 w' :=
  hb.grown hg hbase fun k hk => (hown.lt k hk).1

/-- A string of bytes. -/
abbrev str (bs : List UInt8) : Value := .string ⟨bs.toArray⟩
abbrev byv (b : UInt8) : Value := .int .u8 (b.toNat : Int)

theorem bytes_oneCell (bs : List UInt8) : ∀ u ∈ bs.map byv, u.oneCell' = true := by
  intro u hu; obtain ⟨_, _, rfl⟩ := List.mem_map.1 hu; rfl

/-- 'string(b)'. -/
theorem run_bytes_str {P : Program} {w : World} {src dst e : TypeId} (hs : P.underlying src = some (.slice e)) (he : P.underlying e = some (.int .u8)) (hd : P.underlying dst = some .string)
    {v : Value} {bs : List UInt8} (hsl : Sl w 1 v bs.length (bs.map byv)) : (convert src dst v).run P w = .ok (str bs) w := by
  obtain ⟨_, ⟨rfl, h0⟩ | ⟨b, off, cap, rfl, _, _, hC, _⟩⟩ := hsl
  · obtain rfl : bs = [] := List.eq_nil_of_length_eq_zero h0
    rw [run_convert_bytes_nil w src e hs he 0 0 dst hd]; rfl
  · rw [run_convert_bytes_arg w src e hs he b off bs.length cap (bs.map fun b => (b.toNat : Int)) (by simp) (fun i hi => by
      have := hC i (byv bs[i]) (by simp [hi])
      rw [this]; simp [hi]) dst hd]
    simp only [strOfNums, List.map_map]
    congr 4
    rw [show ((fun n : Int => UInt8.ofNat n.toNat) ∘ fun b : UInt8 => (b.toNat : Int)) = id from by funext b; simp]
    simp

/-- '[]byte(s)': a new block, in a world in which what was there is there. -/
theorem run_str_bytes {P : Program} {w : World} {src dst e : TypeId} (hs : P.underlying src = some .string) (hd : P.underlying dst = some (.slice e)) (he : P.underlying e = some (.int .u8)) (bs : List UInt8) (hm : bs.length ≤ 140737488355328) :
    ∃ v w', (convert src dst (str bs)).run P w = .ok v w' ∧ Sl w' 1 v bs.length (bs.map byv) ∧ Below w.heap.size w w' ∧ ∀ b, v.ownBlock = some b → w.heap.size ≤ b := by
  have hsz : (⟨bs.toArray⟩ : ByteArray).size = bs.length := by simp [ByteArray.size]
  have hcap : bs.length ≤ grownCap w bs.length 0 e ∧ grownCap w bs.length 0 e ≤ maxLen := by
    unfold grownCap Question.cut maxLen
    have := Nat.mod_lt (w.tape w.drawn (.appendCap bs.length 0 e)) (show 2 ^ 63 - bs.length > 0 by omega)
    simp only []
    omega
  have hr := Go.Lib.run_convert_string_bytes (P := P) w src dst e ⟨bs.toArray⟩ hs hd he
  rw [hsz] at hr
  refine ⟨_, _, hr, ⟨by simp, .inr ⟨_, 0, _, rfl, hcap.1, hcap.2, fun i u hi => ?_, by rw [bytesWorld_size]; omega⟩⟩, ⟨?_, ?_, ?_, ?_, ?_⟩, ?_⟩
  · have hlt : i < bs.length := by have := (List.getElem?_eq_some_iff.1 hi).1; simpa using this
    rw [Nat.zero_add, bytesWorld_cell w e _ i (by rw [hsz]; exact hlt)]
    simp [hlt] at hi ⊢
    exact hi
  · unfold bytesWorld World.freeze; rfl
  · unfold bytesWorld World.freeze; rfl
  · unfold bytesWorld World.freeze; rfl
  · rw [bytesWorld_size]; omega
  · intro k hk; exact bytesWorld_at_old w e _ k hk
  · intro b hb
    simp [Value.ownBlock] at hb; omega

theorem str_size (bs : List UInt8) : (⟨bs.toArray⟩ : ByteArray).size = bs.length := by simp [ByteArray.size]
theorem toList_loop (a : ByteArray) : ∀ (n i : Nat) (r : List UInt8), a.size - i = n → ByteArray.toList.loop a i r = r.reverse ++ a.data.toList.drop i := by
  intro n
  induction n with
  | zero =>
    intro i r h
    unfold ByteArray.toList.loop
    have hs : a.size = a.data.size := rfl
    rw [if_neg (by omega), List.drop_of_length_le (by simp; omega), List.append_nil]
  | succ n ih =>
    intro i r h
    unfold ByteArray.toList.loop
    have hs : a.size = a.data.size := rfl
    have hi : i < a.data.toList.length := by simp; omega
    rw [if_pos (by omega), ih (i + 1) _ (by omega), List.drop_eq_getElem_cons hi]
    have hg : a.get! i = a.data.toList[i] := by
      have hi' : i < a.data.size := by omega
      simp [ByteArray.get!, getElem!_pos a.data i hi']
    simp [hg]
theorem toList_mk (bs : List UInt8) : (⟨bs.toArray⟩ : ByteArray).toList = bs := by
  unfold ByteArray.toList
  rw [toList_loop _ _ 0 [] rfl]; simp
theorem op_str_eql (t : TypeId) (a b : List UInt8) : binOp .eql t (str a) (str b) = pure (.bool (a == b)) := by
  rw [binOp_string_eql, toList_mk, toList_mk]
theorem op_str_neq (t : TypeId) (a b : List UInt8) : binOp .neq t (str a) (str b) = pure (.bool (!(a == b))) := by
  rw [binOp_string_neq, toList_mk, toList_mk]
theorem str_append (a b : List UInt8) : (⟨a.toArray⟩ : ByteArray) ++ ⟨b.toArray⟩ = ⟨(a ++ b).toArray⟩ := by
  apply ByteArray.ext
  simp

theorem wpList_copy_str {P : Program} {ops : Array Oper} {rest : List Oper} {o : Oper} {a : Act} {w : World} {Q : Exit → Act → World → Prop} {g off dLen dCap : Nat} {l : List Value} {t dT sT e : TypeId} {x y : Operand} {bs : List UInt8}
    (hB : Blk w g l t) (hgd : o.guard = none) (ho : o.op = .call { callee := .builtin .copy, args := #[x, y], argTypes := #[dT, sT] }) (hx : a.eval x = .slice (some ⟨g, off, none⟩) dLen dCap) (hy : a.eval y = str bs)
    (hu : P.underlying dT = some (.slice e)) (hi : (P.info? e).map (·.size) = some 1) (k : Nat) (hk : k = min bs.length dLen) (hfit : off + k ≤ l.length)
    (h : ∀ w', Blk w' g (l.take off ++ (bs.take k).map byv ++ l.drop (off + k)) t → Oth g w w' → wpList P ops Q rest (a.put o.dst (.int .i64 k)) w') : wpList P ops Q (o :: rest) a w :=
  wpList_plain hgd fun K hK => by
    have hlen : ((bs.take k).map byv).length = k := by simp; omega
    have hst := run_storeCells_at P g off t ((bs.take k).map byv) 0 l.toArray w hB (by simp at hlen ⊢; omega) (bytes_oneCell _)
    simp only [Nat.add_zero, hlen] at hst
    obtain ⟨W, hW⟩ : ∃ W, W = w.setRow g ((l.take off ++ (bs.take k).map byv ++ l.drop (off + k)).toArray) := ⟨_, rfl⟩
    have hrun : (Builtin.copy_ #[dT, sT] o.type #[.slice (some ⟨g, off, none⟩) dLen dCap, str bs]).run P w = .ok (.int .i64 k) W := by
      cases hq : P.info? e with
      | none => simp [hq] at hi
      | some i =>
        have hs : i.size = 1 := by simpa [hq] using hi
        have hk' : Nat.min bs.length dLen = k := hk.symm
        simp only [Builtin.copy_]
        simp [run_underlying hu, Builtin.lenOf, Builtin.firstCells, sizeOf, typeInfo, hq, str_size, hk', -List.map_take]
        simp [-List.map_take] at hst
        rw [hst, hW]
        simp [goInt, -List.map_take]
    unfold Oper.wp
    simp [execOp, ho, resolve, invoke, builtin, hx, hy, hrun, Result.andThen]
    exact hK _ _ (h _ (hW ▸ blk_setRow hB) (hW ▸ oth_setRow))
end Go.Own
end
