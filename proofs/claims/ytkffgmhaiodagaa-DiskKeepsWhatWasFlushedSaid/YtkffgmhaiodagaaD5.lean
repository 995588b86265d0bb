/- Wear and Rot of the program's disk. -/
import Derived.Test.YtkffgmhaiodagaaD4
namespace Go.Proofs.Ytkffgmhaiodagaa
open Go.RowKit Go.Own Go.Disk Go.BigFrame
attribute [local go_sem] setCell_twice str_size
attribute [local irreducible] SqW
theorem PD.wear {w w' : World} {f : Ft} {d : DS} (h : PD w f d) {i : Int} (hi : inR d i = true) {m : List (Int × Value)} (hg : ∀ k, mget m k = if inR d k && (sec d k).w then some (.bool true) else none)
    (hm : IMap w' f.wb (mset m i (.bool true))) (hc : Chg [f.wb] w w') : PD w' f (upd d i fun x => { x with w := true }) := by
  obtain ⟨hft, ⟨l, h1, h2⟩, h3, ⟨m', h4, h5⟩, _, h8, h9⟩ := h
  refine ⟨by simpa [upd] using hft, ⟨l, ?_, h2⟩, ?_, ⟨m', h4.chg hc (by simp; exact h9.2.2.2.2.2), fun k => ?_⟩, ⟨_, hm, fun k => ?_⟩, h8.upd _ _ fun x hx hp => ⟨hx, hp⟩, h9⟩
  · have e : (upd d i fun x => { x with w := true }).s.length = d.s.length := by simp [upd]
    rw [e]; exact h1.chg hc (by simp; exact h9.2.2.1)
  · have e : flatS (upd d i fun x => { x with w := true }).s f.sp = flatS d.s f.sp := by
      unfold flatS flat upd
      congr 1
      rw [List.flatMap_def, List.flatMap_def]
      congr 1
      apply List.ext_getElem?
      intro j
      simp only [List.getElem?_map, List.getElem?_modify]
      cases d.s[j]? with
      | none => rfl
      | some x => by_cases e : i.toNat = j <;> simp [e]
    rw [e]; exact h3.chg hc (by simp; exact h9.2.2.2.2.1)
  · rw [h5, inR_upd]
    by_cases hk : inR d k = true
    · rw [if_pos hk, if_pos hk, sec_upd d _ hi hk]
      by_cases e : k = i
      · subst e; rw [if_pos rfl]
      · rw [if_neg e]
    · rw [if_neg hk, if_neg hk]
  · rw [mget_mset, inR_upd]
    by_cases e : k = i
    · subst e; rw [if_pos rfl, sec_upd d _ hi hi, if_pos rfl, hi]; rfl
    · rw [if_neg e, hg]
      by_cases hk : inR d k = true
      · rw [sec_upd d _ hi hk, if_neg e]
      · simp [hk]
theorem wear_any (f : Ft) (d : DS) (i : Int) (w : World) (h : PD w f d) : Calls Try.prog 20 #[.pointer (some ⟨f.p, 0, none⟩), .int .i64 i] w fun e w' => e = .returned (.int .i64 (awear d i).1) ∧ PD w' f (awear d i).2 ∧ Chg f.all w w' := by
  obtain ⟨l, hB, _⟩ := h.head
  obtain ⟨m, hmm, hmg⟩ := h.worn
  have c0 : w.cell? ⟨f.p, 0, none⟩ = some (.slice (some ⟨f.bb, 0, none⟩) d.s.length f.cap) := hB.cell rfl
  have c2 : w.cell? ⟨f.p, 2, none⟩ = some (.map (some f.wb)) := hB.cell rfl
  go_enter Try.func20, Try.ntmps20
  by_cases h0 : i < 0
  · have e : awear d i = (1, d) := by simp [awear, inR, show ¬ 0 ≤ i by omega]
    go_wp2
    go_ret
    exact ⟨by first | rfl | simp [e], by first | exact h | (rw [e]; exact h), Chg.refl _ _⟩
  · by_cases h1 : (d.s.length : Int) ≤ i
    · have e : awear d i = (1, d) := by simp [awear, inR, show ¬ i < (d.s.length : Int) by omega]
      go_wp2
      go_ret
      exact ⟨by first | rfl | simp [e], by first | exact h | (rw [e]; exact h), Chg.refl _ _⟩
    · have hi : inR d i = true := by simp [inR, show 0 ≤ i by omega, show i < (d.s.length : Int) by omega]
      have e : awear d i = (0, upd d i fun x => { x with w := true }) := by simp [awear, hi]
      have h1' : i < (d.s.length : Int) := by omega
      go_wp2_with (refine wpList_mapUpdate_imap (k := i) (v := .bool true) hmm rfl rfl rfl rfl rfl rfl hTw hKp ?_)
      intro w8 hm8 hc8 _
      have hP := h.wear hi hmg hm8 hc8
      clear hi
      go_wp2
      go_ret
      rw [e]
      exact ⟨rfl, hP, hc8.mono (by simp [Ft.all])⟩
end Go.Proofs.Ytkffgmhaiodagaa
