/- slices.SortStableFunc at short rows of words in ascending order. -/
import Derived.Test.YtnkglahiagigoaaF12
namespace Go.Proofs.Ytnkglahiagigoaa
open Go.RowKit Go.Own Go.Theory Go.BigFrame Go.Shelf
set_option maxRecDepth 100000 in
theorem stable_any (key : Int → Int) (f : Nat) (lb : Array Value) (xs : List Int) (sp : List Value) (g cap : Nat) (E : World → Prop) (hE : ∀ W W', E W → Chg [g] W W' → E W') (hx : xs.Pairwise (· < ·)) (hlen : xs.length < 20) (hcap : xs.length ≤ cap)
    (hf : (Try.prog.funcs[f]?).map (fun fn => (fn.name == "runtime.NumGoroutine", fn.body.isNone)) = some (false, false))
    (hcmp : ∀ W x y, E W → x ∈ xs → y ∈ xs → Calls Try.prog f (#[.int .i64 x, .int .i64 y] ++ lb) W fun e w' => ∃ c, e = .returned (.int .i64 c) ∧ (c < 0 ↔ key x < key y) ∧ Below W.heap.size W w')
    (w : World) (hw : E w) (hB : Blk w g (xs.map (.int .i64) ++ sp) 3) :
    Calls Try.prog 43 #[.slice (some ⟨g, 0, none⟩) xs.length cap, .func (.func f) #[] lb] w fun e w' => e = .returned (.tuple #[]) ∧ ∃ ys : List Int, ys.Perm xs ∧ ys.Pairwise (lexR key) ∧ Blk w' g (ys.map (.int .i64) ++ sp) 3 ∧ Chg [g] w w' := by
  have hi := ins_any key f lb xs sp g cap E hE hx (by omega) hcap hf hcmp w hw hB
  have h20 : (xs.length : Int) < 20 := by omega
  clear hB hx hcmp
  go_enter Try.func43, Try.ntmps43
  go_wp2_with (go_at_call 67; go_enter Try.func67, Try.ntmps67)
  go_loopw [7, 8] (fun a b wr => a = .int .i64 0 ∧ b = .int .i64 20 ∧ wr = w) (fun _ _ _ => 0)
  case atStart => exact ⟨rfl, rfl, rfl⟩
  case round =>
    obtain ⟨rfl, rfl, rfl⟩ := hrel
    go_wp2_with (fail)
    refine hi.mono ?_
    clear hi
    rintro e w2 ⟨rfl, ys, h1, h2, h3, h4⟩
    go_wp2
    go_loopw [6] (fun a wq => a = .int .i64 20 ∧ wq = w2) (fun _ _ => 0)
    case atStart => exact ⟨rfl, rfl⟩
    case round =>
      obtain ⟨rfl, rfl⟩ := hrel
      go_wp2
      go_end0
      go_wp2
      go_end0
      exact ⟨rfl, ys, h1, h2, h3, h4⟩
end Go.Proofs.Ytnkglahiagigoaa
