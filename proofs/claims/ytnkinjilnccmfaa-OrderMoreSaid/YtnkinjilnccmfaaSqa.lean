/- The region lemmas of Sq and Sp over all operations of a region. -/
import Derived.Test.YtnkinjilnccmfaaSqR
namespace Go.Own
open Go.RowKit
section
variable {P : Program} {l : List Oper} {ps : List Nat}
theorem wp_region_sqA {id : Nat} {Q : Exit → Act → World → Prop} {a : Act} {w : World} (n : Nat) (ps : List Nat) (Post : Nat → Value → World → Prop) (hm : P.follows .mixedOrders = true) (hn : l.length = n) (hB : sqB l n a.tmps.size ps = true)
    (stable : ∀ i v w w', Post i v w → ExtB w w' → Post i v w')
    (h : SqW P l ps ExtB w.drew Post (fun a' => ∀ w', ExtB w.drew w' → FactsEnd l ps Post n a' w' → Q .normal a' w') 0 l a) : (Code.region id l.toArray true).wp P Q a w := by
  subst hn
  refine wp_region_sqB l.length ps Post hm hB stable ?_
  rw [List.take_length, List.drop_length]
  exact h
theorem wp_region_spA {id : Nat} {Q : Exit → Act → World → Prop} {a : Act} {w : World} (n : Nat) (ps : List Nat) (Post : Nat → Value → World → Prop) (hn : l.length = n) (hB : spB l n a.tmps.size = true)
    (stable : ∀ i v w w', Post i v w → ExtB w w' → Post i v w')
    (h : SqW P l ps ExtB w Post (fun a' => ∀ w', ExtB w w' → FactsEnd l ps Post n a' w' → Q .normal a' w') 0 l a) : (Code.region id l.toArray false).wp P Q a w := by
  subst hn
  refine wp_region_spB l.length ps Post hB stable ?_
  rw [List.take_length, List.drop_length]
  exact h
/-- What is stable, case by case: the facts of the posted operations alone. -/
theorem stable_of {Post : Nat → Value → World → Prop} (h : ∀ i v w w', Post i v w → ExtB w w' → Post i v w') : ∀ i v w w', Post i v w → ExtB w w' → Post i v w' := h
end
end Go.Own
