/- order: what Find returns is short; lists of sets handed over. -/
import Derived.Test.YtnkinjilnccmfaaL3
import Derived.Test.YtnkinjilnccmfaaN2
namespace Go.Proofs.Ytnkinjilnccmfaa
open Go.ChangeShapes Go.WideShapes Go.ChangeAt Go.WideMaps Go.WideElems Go.RowKit Go.Own Go.ChangeMaps Go.Order
theorem ownK : ownKnob Try.prog.godebug = none := by kernel_rfl
theorem laidOutK : laidOutB Try.prog = true := by kernel_rfl
theorem canL_len (may : List Spl) (st : List Int) : (canL may st).length ≤ 65536 := by
  unfold canL
  exact Nat.le_trans (List.length_filter_le _ _) (by rw [List.length_range]; exact Nat.le_refl _)
set_option maxRecDepth 100000 in
theorem findV_s (whole : Int) (may : List Spl) (st : List Int) : (findV whole may st).s.length < 1000000 := by
  have h := canL_len may st
  unfold findV
  split
  · split
    · exact (by decide : 0 < 1000000)
    · exact Nat.lt_of_le_of_lt h (by decide)
  · exact (by decide : 0 < 1000000)
set_option maxRecDepth 100000 in
theorem findV_l (whole : Int) (may : List Spl) (st : List Int) : (findV whole may st).l.length < 1000000 := by
  unfold findV
  split
  · rename_i h
    obtain ⟨_, _, hw, _, hok⟩ := errV_ok h
    split
    · have hb : 1 ≤ whole.toNat ∧ whole.toNat < 65536 := by unfold isB at hw; simp at hw; omega
      have h1 := tre_len (st := st) hok 65536 whole.toNat hb.1 hb.2
      have h2 := Theory.pop_le16 whole.toNat
      show (tre may st 65536 whole.toNat).length < _; omega
    · exact (by decide : 0 < 1000000)
  · exact (by decide : 0 < 1000000)
section
variable {H : Type} {enc : TypeId × Value → H} {W : World}
set_option maxRecDepth 100000 in
/-- a list of sets handed over -/
theorem sets_of {b0 : Nat} {r : Reach} {v : Value} {d : DataW H} {ps : List MemPlace} (hval : Value.okWide Try.prog W r b0 24 v) (h : DataW.Trod enc Try.prog W 0 (fun _ => true) true 24 v d ps) :
    ∃ (l : List Int) (s : Option Addr) (ca : Nat), v = .slice s l.length ca ∧ Sz W v l.length (intsI l) ∧ l.length ≤ maxLen := by
  obtain ⟨l, hS, hm, _⟩ := sl_of_ints Try.underlying24 Try.underlying22 cells22 hval h
  rcases hS.2 with ⟨h1, h2⟩ | ⟨b, off, cap, h1, h2⟩
  · exact ⟨l, none, 0, by rw [h1, h2], fun _ => hS, hm⟩
  · exact ⟨l, _, cap, h1, fun _ => hS, hm⟩
end
end Go.Proofs.Ytnkinjilnccmfaa
