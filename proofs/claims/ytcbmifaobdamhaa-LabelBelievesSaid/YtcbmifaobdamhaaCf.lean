/- slices.ContainsFunc, slices.IndexFunc at a slice of words that reads. -/
import Derived.Test.YtcbmifaobdamhaaOwn
import Derived.Shelf.SlicesE.IndexFunc
namespace Go.Own
open Go.RowKit Go.Proofs Go.Shelf
theorem sl_split {w : World} {n cap : Nat} {sa : Option Addr} {vs : List Value} (h : Sl w 1 (.slice sa n cap) n vs) (hn : 0 < n) :
    ∃ b off, sa = some ⟨b, off, none⟩ ∧ n ≤ cap ∧ cap ≤ maxLen ∧ Cells w b off vs ∧ b < w.heap.size := by
  obtain ⟨_, ⟨h2, h3⟩ | ⟨b, off, cap', h2, h3, h4, h5, h6⟩⟩ := h
  · omega
  · injection h2 with h2 _ h7
    subst h7
    exact ⟨b, off, h2, h3, h4, h5, h6⟩
theorem getBang {α : Type} [Inhabited α] (l : List α) (f : α → Value) (j : Nat) (h : j < l.length) : (l.map f)[j]? = some (f l[j]!) := by
  simp [h]
theorem cf_any {P : Program} {ρ : Ren} (L : SlLaysH.n8 P ρ) (p : Int → Bool) (g : Nat) (lb : Array Value) (eg : ∀ args w, (callFunc g args).run P w = .ok (.enter g args) w) (l : List Int) (sa : Option Addr) (cap : Nat) (w : World)
    (hp : PredAt P g lb (Value.int .i64) p w) (hl : Sl w 1 (.slice sa l.length cap) l.length (l.map (.int .i64))) (hm : l.length ≤ 9223372036854775807) :
    Calls P (ρ.f 8) #[.slice sa l.length cap, .func (.func g) #[] lb] w fun e w' => e = .returned (.bool (l.any p)) ∧ ∃ q, w' = w.drewN q := by
  by_cases h0 : l.length = 0
  · rw [h0]
    refine (AnyE.slices_ContainsFunc_empty L sa cap _ w).mono ?_
    rintro e w' ⟨rfl, rfl⟩
    rw [List.length_eq_zero_iff.1 h0]
    exact ⟨rfl, 0, rfl⟩
  · obtain ⟨b, off, rfl, _, _, hC, _⟩ := sl_split hl (by omega)
    refine (AnyE.slices_ContainsFunc L (Value.int .i64) p g lb eg b off l.length cap l w hp (Nat.le_refl _) hm fun j hj => hC j _ (getBang l _ j hj)).mono ?_
    rintro e w' ⟨rfl, h⟩
    rw [List.take_length]
    exact ⟨rfl, h⟩
theorem if_any {P : Program} {ρ : Ren} (L : SlLaysH.n6 P ρ) (p : Int → Bool) (g : Nat) (lb : Array Value) (eg : ∀ args w, (callFunc g args).run P w = .ok (.enter g args) w) (l : List Int) (sa : Option Addr) (cap : Nat) (w : World)
    (hp : PredAt P g lb (Value.int .i64) p w) (hl : Sl w 1 (.slice sa l.length cap) l.length (l.map (.int .i64))) (hm : l.length ≤ 9223372036854775807) :
    Calls P (ρ.f 6) #[.slice sa l.length cap, .func (.func g) #[] lb] w fun e w' => e = .returned (.int .i64 (Lib.idxBy (fun _ y => p y) l default)) ∧ ∃ q, w' = w.drewN q := by
  by_cases h0 : l.length = 0
  · rw [h0]
    refine (AnyE.slices_IndexFunc_empty L sa cap _ w).mono ?_
    rintro e w' ⟨rfl, rfl⟩
    rw [List.length_eq_zero_iff.1 h0]
    exact ⟨rfl, 0, rfl⟩
  · obtain ⟨b, off, rfl, _, _, hC, _⟩ := sl_split hl (by omega)
    refine (AnyE.slices_IndexFunc L (Value.int .i64) p g lb eg b off l.length cap l w hp (Nat.le_refl _) hm fun j hj => hC j _ (getBang l _ j hj)).mono ?_
    rintro e w' ⟨rfl, h⟩
    rw [List.take_length]
    exact ⟨rfl, h⟩
end Go.Own
