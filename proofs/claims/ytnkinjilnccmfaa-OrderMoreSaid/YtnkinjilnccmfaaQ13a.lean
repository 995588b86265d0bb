/- order: the program's CheckNone. -/
import Derived.Test.YtnkinjilnccmfaaQ12
namespace Go.Order
open Go.RowKit Go.Own Go.Proofs.Ytnkinjilnccmfaa
def incB : List Int → Bool
  | x :: y :: r => decide (x < y) && incB (y :: r)
  | _ => true
theorem incB_iff : ∀ {l : List Int}, incB l = true ↔ ∀ j (h : j + 1 < l.length), l[j] < l[j + 1]
  | [] => by simp [incB]
  | [x] => by simp [incB]
  | x :: y :: r => by
    unfold incB
    rw [Bool.and_eq_true, decide_eq_true_eq, incB_iff (l := y :: r)]
    constructor
    · rintro ⟨h1, h2⟩ j h
      cases j with
      | zero => exact h1
      | succ j => exact h2 j (by simpa using h)
    · intro h
      exact ⟨h 0 (by simp), fun j hj => h (j + 1) (by simpa using hj)⟩
def openB (L : List Int) (s : Int) : Bool := decide (siz s = 1) && !hasB L s
def growB (st L : List Int) (x : Spl) : Bool := hasB st x.w && hasB L x.p && hasB L x.rest && !hasB L x.w
def noneB (whole : Int) (may : List Spl) (st L : List Int) : Bool := incB L && !hasB L whole && !st.any (openB L) && !may.any (growB st L)
def noneV (whole : Int) (may : List Spl) (st L : List Int) : Int := if errV whole may st = 0 then (if noneB whole may st L then 0 else 22) else errV whole may st
theorem errV_cases (whole : Int) (may : List Spl) (st : List Int) : errV whole may st = 0 ∨ errV whole may st = 1 ∨ errV whole may st = 4 := by
  unfold errV; split
  · exact .inr (.inr rfl)
  · split
    · exact .inl rfl
    · exact .inr (.inl rfl)
theorem errV_ok {whole : Int} {may : List Spl} {st : List Int} (h : errV whole may st = 0) : may.length ≤ 4096 ∧ st.length ≤ 4096 ∧ isB whole = true ∧ st.all isB = true ∧ may.all Spl.ok = true := by
  unfold errV at h
  split at h
  · cases h
  · split at h
    · rename_i h1 h2
      rw [Bool.and_eq_true, Bool.and_eq_true] at h2
      exact ⟨by omega, by omega, h2.1.1, h2.1.2, h2.2⟩
    · cases h
theorem incB_bad {l : List Int} {i : Nat} (h0 : 0 < i) (h : i < l.length) (hx : ¬ l[i - 1] < l[i]) : incB l = false := by
  cases he : incB l with
  | false => rfl
  | true =>
    have := incB_iff.1 he (i - 1) (by omega)
    simp only [show i - 1 + 1 = i by omega] at this
    exact absurd this hx
end Go.Order
namespace Go.Own
open Go.RowKit
theorem Chg.cell {F : List Nat} {w w' : World} {p : Addr} {v : Value} (h : Chg F w w') (hp : w.cell? p = some v) (hF : p.block ∉ F) : w'.cell? p = some v :=
  (World.cell?_of_block (w := w) (h.block p.block (World.block_lt_of_cell? _ _ hp) hF)).trans hp
section
variable {P : Program}
theorem run_storeVar_one {w : World} {g off : Nat} {l : List Value} {v : Value} {t ty : TypeId} (hB : Blk w g l t)
    (hi : (P.info? ty).map (·.size) = some 1) (hv : v.cells = #[v]) (hfit : off < l.length) (h1 : v.oneCell' = true) :
    (storeVar ty ⟨g, off, none⟩ v).run P w = .ok () (w.setRow g (l.take off ++ [v] ++ l.drop (off + 1)).toArray) := by
  have h := run_storeCells_at P g off t [v] 0 l.toArray w hB (by simp; omega) (by intro u hu; simp at hu; rw [hu]; exact h1)
  cases hq : P.info? ty with
  | none => simp [hq] at hi
  | some i =>
    have hs : i.size = 1 := by simpa [hq] using hi
    simp only [Nat.add_zero, List.length_singleton] at h
    simp [storeVar, Sem.run_bind, sizeOf, typeInfo, hq, hs, hv] at h ⊢
    exact h
/-- A cell of a block is set. -/
theorem wpList_store1 {ops : Array Oper} {rest : List Oper} {o : Oper} {a : Act} {w : World} {Q : Exit → Act → World → Prop} {g off : Nat} {l : List Value} {v : Value} {t ty : TypeId} {x y : Operand}
    (hB : Blk w g l t) (hgd : o.guard = none) (ho : o.op = .store ty x y) (hdst : o.dst = none) (hx : a.eval x = .pointer (some ⟨g, off, none⟩)) (hy : a.eval y = v)
    (hi : (P.info? ty).map (·.size) = some 1) (hv : v.cells = #[v]) (hfit : off < l.length) (h1 : v.oneCell' = true)
    (h : ∀ w', Blk w' g (l.take off ++ [v] ++ l.drop (off + 1)) t → Oth g w w' → wpList P ops Q rest a w') : wpList P ops Q (o :: rest) a w :=
  wpList_plain hgd fun _ hK => by
    unfold Oper.wp execOp
    simp only [ho, hx, hy, Instr.storeAt, Instr.sureAddr, Sem.run_bind, Sem.run_pure, Result.andThen_ok, run_storeVar_one hB hi hv hfit h1]
    have := h _ (blk_setRow hB) oth_setRow
    simp only [Oper.upon_skip, hdst, Act.put]
    exact hK _ _ this
end
end Go.Own
namespace Go.Proofs.Ytnkinjilnccmfaa
open Go.RowKit Go.Own Go.BigFrame Go.Big Go.Order
theorem infoFirm : (Try.prog.info? 71).map (·.size) = some 1 := by kernel_rfl
end Go.Proofs.Ytnkinjilnccmfaa
