/- label: slices.ContainsFunc at the rules of a base. -/
import Derived.Test.YtcbmifaobdamhaaA6
namespace Go.Label
open Go.RowKit Go.Own
/-- A closure that answers p at each rule of a base. -/
def RuleP (P : Program) (g : Nat) (lb : Array Value) (b : Lg) (p : Rl → Bool) (w : World) : Prop :=
  ∀ i (hi : i < b.rules.length) sb cb, Sz w (.slice sb b.rules[i].body.length cb) b.rules[i].body.length (b.rules[i].body.map (.int .i64)) → ∀ W, Below w.heap.size w W →
    Calls P g (#[.agg #[.int .i64 b.rules[i].head, .slice sb b.rules[i].body.length cb]] ++ lb) W fun e w' => e = .returned (.bool (p b.rules[i])) ∧ Below w.heap.size w w'
end Go.Label
namespace Go.Proofs.Ytcbmifaobdamhaa
open Go.RowKit Go.Own Go.Theory Go.BigFrame Go.Ib Go.Label
set_option maxRecDepth 100000 in
theorem ifr_any (b : Lg) (sa sr : Option Addr) (ca cr : Nat) (bs : List Value) (g : Nat) (lb : Array Value) (p : Rl → Bool) (eg : ∀ args w, (callFunc g args).run Try.prog w = .ok (.enter g args) w) (w : World) (h : LgAt w b sa sr ca cr bs) (h64 : b.rules.length ≤ 64) (hp : RuleP Try.prog g lb b p w) :
    Calls Try.prog 62 #[.slice sr b.rules.length cr, .func (.func g) #[] lb] w fun e w' => (∃ z : Int, e = .returned (.int .i64 z) ∧ decide (0 ≤ z) = b.rules.any p) ∧ Below w.heap.size w w' := by
  go_enter Try.func62, Try.ntmps62
  go_wp2
  go_loopw [8] (fun v wr => ∃ i : Nat, i ≤ b.rules.length ∧ v = .int .i64 i ∧ (∀ j (hj : j < b.rules.length), j < i → p b.rules[j] = false) ∧ Below w.heap.size w wr) (fun v _ => b.rules.length - (vInt v).toNat)
  case atStart => exact ⟨0, by omega, rfl, fun j _ h => absurd h (by omega), Below.refl _ _⟩
  case round =>
    obtain ⟨i, hi, rfl, hno, hbw⟩ := hrel
    by_cases h4 : i < b.rules.length
    · obtain ⟨gg, o, sb, cb, rfl, hc, hbd⟩ := h.rule h4
      obtain ⟨k0, k1⟩ := hc wr hbw
      have hcall := hp i h4 sb cb hbd wr hbw
      clear hc hbd hp h
      obtain ⟨q, hq⟩ : ∃ q, q = p b.rules[i] := ⟨_, rfl⟩
      rw [← hq] at hcall
      have HQ := Lib.hid hq; clear hq
      have HNO := Lib.hid hno; clear hno
      have HB := Lib.hid hbw; clear hbw
      go_wp2_with (fail)
      refine hcall.mono ?_
      rintro e w' ⟨rfl, hb'⟩
      cases q with
      | true =>
        go_wp2
        go_ret
        exact ⟨⟨_, rfl, by rw [any_of h4 HQ.out.symm]; exact decide_eq_true (by omega)⟩, hb'⟩
      | false =>
        go_wp2
        go_roundw
        case rel =>
          refine ⟨i + 1, by omega, by go_num, fun j hj hji => ?_, hb'⟩
          by_cases e : j = i
          · subst e; exact HQ.out.symm
          · exact HNO.out j hj (by omega)
        case measure => simp [vInt]; omega
    · have e : b.rules.any p = false := none_of fun j hj => hno j hj (by omega)
      go_wp2
      go_ret
      exact ⟨⟨_, rfl, by rw [e]; rfl⟩, hbw⟩
theorem cfr_any (b : Lg) (sa sr : Option Addr) (ca cr : Nat) (bs : List Value) (g : Nat) (lb : Array Value) (p : Rl → Bool) (eg : ∀ args w, (callFunc g args).run Try.prog w = .ok (.enter g args) w) (w : World) (h : LgAt w b sa sr ca cr bs) (h64 : b.rules.length ≤ 64) (hp : RuleP Try.prog g lb b p w) :
    Calls Try.prog 40 #[.slice sr b.rules.length cr, .func (.func g) #[] lb] w fun e w' => e = .returned (.bool (b.rules.any p)) ∧ Below w.heap.size w w' := by
  have hcall := ifr_any b sa sr ca cr bs g lb p eg w h h64 hp
  clear hp h
  go_enter Try.func40, Try.ntmps40
  go_wp2_with (fail)
  refine hcall.mono ?_
  rintro e w' ⟨⟨z, rfl, hz⟩, hb⟩
  have HZ := Lib.hid hz; clear hz
  go_wp2
  go_ret
  exact ⟨by rw [← HZ.out]; rfl, hb⟩
theorem longP (b : Lg) (w : World) : RuleP Try.prog 39 #[] b longR w := fun i hi sb cb _ W hW => by
  unfold longR
  have hb := (hW.alloc hW.size (.cells #[.int .i64 b.rules[i].head, .slice sb b.rules[i].body.length cb] 61))
  obtain ⟨m, hm⟩ : ∃ m, m = b.rules[i].body.length := ⟨_, rfl⟩
  rw [← hm] at hb ⊢
  clear hm
  show Calls Try.prog 39 #[.agg #[.int .i64 b.rules[i].head, .slice sb m cb]] W _
  have e : decide ((16 : Int) < m) = decide (16 < m) := by
    by_cases h : 16 < m
    · rw [decide_eq_true h]; exact decide_eq_true (by omega)
    · rw [decide_eq_false h]; exact decide_eq_false (by omega)
  have E := Lib.hid e; clear e
  go_enter Try.func39, Try.ntmps39
  go_wp2
  go_ret
  exact ⟨by rw [← E.out]; rfl, hb⟩
/-- no: whether a number is no fact -/
theorem no_any (F f : Int) (B : Nat) (w : World) (hc : w.cell? ⟨B, 0, none⟩ = some (.int .i64 F)) : Calls Try.prog 41 #[.int .i64 f, .pointer (some ⟨B, 0, none⟩)] w fun e w' => e = .returned (.bool (noB F f)) ∧ w' = w := by
  unfold noB
  by_cases h : f < 0
  · rw [decide_eq_true h]
    go_enter Try.func41, Try.ntmps41
    go_wp2
    go_ret
    exact ⟨rfl, rfl⟩
  · rw [decide_eq_false h]
    go_enter Try.func41, Try.ntmps41
    go_wp2
    go_ret
    exact ⟨rfl, rfl⟩
end Go.Proofs.Ytcbmifaobdamhaa
