/- '[]byte(s)': the new block whole, so that it may be written. Any program. -/
import Derived.Test.YtkffgmhaiodagaaOw
namespace Go.Own
open Go.RowKit Go.Lib
/-- Block g holds these cells; what lies behind them is frozen. -/
def Blf (w : World) (g : Nat) (l : List Value) (t : TypeId) : Prop := w.heap[g]? = some (.cells l.toArray t (l.length, l.length + 1))
theorem Blf.lt {w : World} {g : Nat} {l : List Value} {t : TypeId} (h : Blf w g l t) : g < w.heap.size := by
  rcases Nat.lt_or_ge g w.heap.size with h' | h'
  · exact h'
  · unfold Blf at h; rw [Array.getElem?_eq_none h'] at h; cases h
theorem Blf.cell {w : World} {g : Nat} {l : List Value} {t : TypeId} {i : Nat} {v : Value} (h : Blf w g l t) (hi : l[i]? = some v) : w.cell? ⟨g, i, none⟩ = some v := by
  rw [cell_of_row w g i _ t _ h]; simpa using hi
theorem Blf.frozen {w : World} {g : Nat} {l : List Value} {t : TypeId} (h : Blf w g l t) {i : Nat} (hi : i < l.length) : w.frozen? ⟨g, i, none⟩ = false := by
  unfold Blf at h
  simp [World.frozen?, h]; omega
theorem Blf.set {w : World} {g : Nat} {l : List Value} {t : TypeId} (h : Blf w g l t) (i : Nat) (v : Value) : Blf (w.setCell ⟨g, i, none⟩ v) g (l.set i v) t := by
  unfold Blf
  rw [setCell_eq_setRow w g i _ t _ v h, setRow_heap w g _ _ t _ h]
  simp
theorem Blf.drewN {w : World} {g : Nat} {l : List Value} {t : TypeId} (h : Blf w g l t) (n : Nat) : Blf (w.drewN n) g l t := by
  unfold Blf at *; simpa using h
theorem Blf.below {w w' : World} {g B : Nat} {l : List Value} {t : TypeId} (h : Blf w g l t) (hb : Below B w w') (hg : g < B) : Blf w' g l t := by
  unfold Blf; rw [hb.block g hg]; exact h
theorem Blf.cells {w : World} {g : Nat} {l : List Value} {t : TypeId} (h : Blf w g l t) (off : Nat) (vs : List Value) (hv : (l.drop off).take vs.length = vs) : Cells w g off vs := fun i v hi => by
  have hlt : i < vs.length := (List.getElem?_eq_some_iff.1 hi).1
  rw [← hv, List.getElem?_take_of_lt hlt, List.getElem?_drop] at hi
  exact h.cell hi
theorem run_str_bytes2 {P : Program} {w : World} {src dst e : TypeId} (hs : P.underlying src = some .string) (hd : P.underlying dst = some (.slice e)) (he : P.underlying e = some (.int .u8)) (bs : List UInt8) (hm : bs.length ≤ 140737488355328) :
    ∃ cap sp, (convert src dst (str bs)).run P w = .ok (.slice (some ⟨w.heap.size, 0, none⟩) bs.length cap) (bytesWorld w e ⟨bs.toArray⟩) ∧ bs.length ≤ cap ∧ cap ≤ maxLen ∧ Blf (bytesWorld w e ⟨bs.toArray⟩) w.heap.size (bs.map byv ++ sp) e ∧ Below w.heap.size w (bytesWorld w e ⟨bs.toArray⟩) := by
  have hsz : (⟨bs.toArray⟩ : ByteArray).size = bs.length := by simp [ByteArray.size]
  have hcap : bs.length ≤ grownCap w bs.length 0 e ∧ grownCap w bs.length 0 e ≤ maxLen := by
    unfold grownCap Question.cut maxLen
    have := Nat.mod_lt (w.tape w.drawn (.appendCap bs.length 0 e)) (show 2 ^ 63 - bs.length > 0 by omega)
    simp only []
    omega
  have hr := Go.Lib.run_convert_string_bytes (P := P) w src dst e ⟨bs.toArray⟩ hs hd he
  rw [hsz] at hr
  refine ⟨_, List.replicate (grownCap w bs.length 0 e - bs.length) (.int .u8 0), hr, hcap.1, hcap.2, ?_, ?_⟩
  · have h := bytesWorld_at_new w e ⟨bs.toArray⟩
    unfold Blf
    rw [h]
    simp [bytesCells, hsz]
  · exact below_freeze ((Below.drew (Below.refl _ w)).alloc (Nat.le_refl _) _) (p := ⟨w.heap.size, _, none⟩) (Nat.le_refl _) 1
/-- '[]byte(s)'. -/
theorem wpList_str_bytes {P : Program} {ops : Array Oper} {rest : List Oper} {o : Oper} {a : Act} {w : World} {Q : Exit → Act → World → Prop} {src dst e : TypeId} {x : Operand} {bs : List UInt8}
    (hgd : o.guard = none) (ho : o.op = .convert src dst x) (hx : a.eval x = str bs) (hs : P.underlying src = some .string) (hd : P.underlying dst = some (.slice e)) (he : P.underlying e = some (.int .u8)) (hm : bs.length ≤ 140737488355328)
    (h : ∀ cap sp w', bs.length ≤ cap → cap ≤ maxLen → Blf w' w.heap.size (bs.map byv ++ sp) e → Below w.heap.size w w' → wpList P ops Q rest (a.put o.dst (.slice (some ⟨w.heap.size, 0, none⟩) bs.length cap)) w') : wpList P ops Q (o :: rest) a w :=
  wpList_plain hgd fun _ hK => by
    obtain ⟨cap, sp, h1, h2, h3, h4, h5⟩ := run_str_bytes2 (P := P) (w := w) hs hd he bs hm
    unfold Oper.wp execOp
    simp only [ho, hx, Sem.run_bind, Sem.run_pure, Result.andThen_ok, h1]
    exact hK _ _ (h cap sp _ h2 h3 h4 h5)
end Go.Own
