/- The walks over the reference's Few, Joined, padKey, Mac. -/
import Derived.Test.YtcdgpkhfflehjaaDoorA17
namespace Go.Proofs.YtcdgpkhfflehjaaDoor
open Go.RowKit Go.Sha Go.Own
attribute [local go_sem high] op_str_eql op_str_neq
attribute [local go_sem] str_size
theorem sl_cases {w : World} {n : Nat} {sa : Option Addr} {cap : Nat} {vs : List Value} (h : Sl w 1 (.slice sa n cap) n vs) (hn : 0 < n) : ∃ b off, sa = some ⟨b, off, none⟩ ∧ n ≤ cap ∧ cap ≤ maxLen ∧ Cells w b off vs ∧ b < w.heap.size := by
  obtain ⟨_, ⟨_, h0⟩ | ⟨b, off, cap', hv, hc1, hc2, hC, hlt⟩⟩ := h
  · omega
  · injection hv with e1 e2 e3
    subst e3
    exact ⟨b, off, e1, hc1, hc2, hC, hlt⟩
def fewB (l : List (List UInt8)) : Bool := decide (l.length ≤ 12) && l.all fun p => decide (p.length ≤ 400)
theorem few_any (l : List (List UInt8)) (sa : Option Addr) (cap : Nat) (w : World) (hsl : Sl w 1 (.slice sa l.length cap) l.length (l.map str)) (hl : l.length ≤ maxLen) (hls : ∀ s ∈ l, s.length ≤ maxLen) :
    Calls Tryd.prog 13 #[.slice sa l.length cap] w fun e w' => e = .returned (.bool (fewB l)) ∧ w' = w := by
  unfold maxLen at hl hls
  have HSL := Lib.hid hsl; clear hsl
  have HLS := Lib.hid hls; clear hls
  by_cases h12 : l.length ≤ 12
  · have H12 : Hid (fewB l = l.all fun p => decide (p.length ≤ 400)) := by show _ = _; simp [fewB, h12]
    go_enter Tryd.func13, Tryd.ntmps13
    go_wp2
    go_loop [3] (fun c => ∃ i : Nat, i ≤ l.length ∧ c = .int .i64 i ∧ Hid ((l.take i).all (fun p => decide (p.length ≤ 400)) = true)) (fun c => l.length - (intOf c).toNat)
    case atStart => exact ⟨0, by omega, rfl, by show _ = _; simp⟩
    case round =>
      obtain ⟨i, hi, rfl, Ha⟩ := hrel
      by_cases hil : i < l.length
      · obtain ⟨b, off, rfl, hc1, hc2, hC, hlt⟩ := sl_cases HSL.out (by omega)
        obtain ⟨p, Hp⟩ : ∃ p, Hid (p = l.getD i []) := ⟨_, rfl⟩
        have hmem : p ∈ l := by rw [Hp.out]; simp [hil]
        have hpl := HLS.out p hmem
        have cx : w.cell? ⟨b, off + i, none⟩ = some (str p) := hC i (str p) (by rw [Hp.out]; simp [hil])
        clear hC
        by_cases hp4 : p.length ≤ 400
        · go_wp2
          go_round
          case rel =>
            refine ⟨i + 1, by omega, by go_num, ?_⟩
            show _ = _
            rw [List.take_succ_eq_append_getElem hil, List.all_append, Ha.out]
            have e : l[i] = p := by rw [Hp.out]; simp [hil]
            simp [e, hp4]
          case measure => simp [intOf]; omega
        · have hf : fewB l = false := by
            rw [H12.out, List.all_eq_false]
            exact ⟨p, hmem, by simpa using hp4⟩
          have HF := Lib.hid hf; clear hf
          go_wp2
          go_ret
          exact ⟨by rw [HF.out]; rfl, rfl⟩
      · obtain rfl : i = l.length := by omega
        have hf : fewB l = true := by rw [H12.out, ← Ha.out, List.take_length]
        have HF := Lib.hid hf; clear hf
        go_wp2
        go_ret
        exact ⟨by rw [HF.out]; rfl, rfl⟩
  · have hf : fewB l = false := by simp [fewB, h12]
    have HF := Lib.hid hf; clear hf
    go_enter Tryd.func13, Tryd.ntmps13
    go_wp2
    go_ret
    exact ⟨by rw [HF.out]; rfl, rfl⟩
theorem joined_any (l : List (List UInt8)) (sa : Option Addr) (cap : Nat) (w : World) (hsl : Sl w 1 (.slice sa l.length cap) l.length (l.map str)) (hl : l.length ≤ maxLen) (hf : l.flatten.length ≤ 100000) :
    Calls Tryd.prog 16 #[.slice sa l.length cap] w fun e w' => e = .returned (str l.flatten) ∧ w' = w := by
  unfold maxLen at hl
  have HSL := Lib.hid hsl; clear hsl
  go_enter Tryd.func16, Tryd.ntmps16
  go_wp2
  go_loop [3, 4] (fun s c => ∃ i : Nat, i ≤ l.length ∧ c = .int .i64 i ∧ s = str (l.take i).flatten) (fun _ c => l.length - (intOf c).toNat)
  case atStart => exact ⟨0, by omega, rfl, rfl⟩
  case round =>
    obtain ⟨i, hi, rfl, rfl⟩ := hrel
    by_cases hil : i < l.length
    · obtain ⟨b, off, rfl, hc1, hc2, hC, hlt⟩ := sl_cases HSL.out (by omega)
      obtain ⟨p, Hp⟩ : ∃ p, Hid (p = l.getD i []) := ⟨_, rfl⟩
      have cx : w.cell? ⟨b, off + i, none⟩ = some (str p) := hC i (str p) (by rw [Hp.out]; simp [hil])
      clear hC
      obtain ⟨q, Hq⟩ : ∃ q, Hid (q = (l.take i).flatten) := ⟨_, rfl⟩
      rw [← Hq.out]
      have ha := str_append q p
      have hqp : q.length + p.length ≤ 100000 := by
        have e1 : l.flatten = (l.take i).flatten ++ (l.drop i).flatten := by rw [← List.flatten_append, List.take_append_drop]
        rw [List.drop_eq_getElem_cons hil, List.flatten_cons] at e1
        have e : l[i] = p := by rw [Hp.out]; simp [hil]
        rw [← Hq.out, e] at e1
        rw [e1] at hf
        simp at hf; omega
      go_wp2
      go_round
      case rel =>
        refine ⟨i + 1, by omega, by go_num, ?_⟩
        have e : l[i] = p := by rw [Hp.out]; simp [hil]
        rw [List.take_succ_eq_append_getElem hil, List.flatten_append, ← Hq.out, e]
        simp
      case measure => simp [intOf]; omega
    · obtain rfl : i = l.length := by omega
      rw [List.take_length]
      go_wp2
      go_ret
      exact ⟨rfl, rfl⟩
end Go.Proofs.YtcdgpkhfflehjaaDoor
