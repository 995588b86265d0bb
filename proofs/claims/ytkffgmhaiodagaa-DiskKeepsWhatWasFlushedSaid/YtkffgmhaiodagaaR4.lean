/- Flush, Mount of the reference. -/
import Derived.Test.YtkffgmhaiodagaaR3
namespace Go.Disk
open Go.RowKit Go.Own
/-- The first k sectors are settled. -/
def sallk (ps : List Int) (s : List Sec) (k : Nat) : List Sec := (sall ps s).take k ++ s.drop k
theorem sallk_zero (ps : List Int) (s : List Sec) : sallk ps s 0 = s := by simp [sallk]
theorem sallk_all (ps : List Int) (s : List Sec) : sallk ps s s.length = sall ps s := by
  simp [sallk, List.take_of_length_le, sall_length]
theorem sallk_length (ps : List Int) (s : List Sec) {k : Nat} (hk : k ≤ s.length) : (sallk ps s k).length = s.length := by
  simp [sallk, sall_length]; omega
theorem sallk_at (ps : List Int) (s : List Sec) {k : Nat} (hk : k < s.length) : (sallk ps s k).getD k default = s.getD k default := by
  have h1 : ((sall ps s).take k).length = k := by simp [sall_length]; omega
  unfold sallk
  rw [List.getD_eq_getElem?_getD, List.getElem?_append_right (by omega), h1, Nat.sub_self, List.getElem?_drop, Nat.add_zero, List.getD_eq_getElem?_getD]
theorem sallk_succ (ps : List Int) (s : List Sec) {k : Nat} (hk : k < s.length) : sallk ps s (k + 1) = if (s.getD k default).p.isSome then (sallk ps s k).modify k (settle1 (ps.getD (cnt s k) 64)) else sallk ps s k := by
  have hl := sall_length s ps
  have h1 : ((sall ps s).take k).length = k := by simp [hl]; omega
  have h2 : ((sall ps s).take (k + 1)).length = k + 1 := by simp [hl]; omega
  have hv := sall_getD s ps k hk
  rw [List.getD_eq_getElem?_getD, List.getElem?_eq_getElem (by omega), Option.getD_some] at hv
  have hx : s[k]? = some (s.getD k default) := by rw [List.getD_eq_getElem?_getD, List.getElem?_eq_getElem hk]; rfl
  apply List.ext_getElem?
  intro j
  have e1 : (sallk ps s (k + 1))[j]? = if j < k then (sall ps s)[j]? else if j = k then some (sall ps s)[k] else s[j]? := by
    unfold sallk
    by_cases hj : j < k
    · rw [if_pos hj, List.getElem?_append_left (by omega), List.getElem?_take_of_lt (by omega)]
    · rw [if_neg hj]
      by_cases hj2 : j = k
      · subst hj2
        rw [if_pos rfl, List.getElem?_append_left (by omega), List.getElem?_take_of_lt (by omega), List.getElem?_eq_getElem]
      · rw [if_neg hj2, List.getElem?_append_right (by omega), h2, List.getElem?_drop, show k + 1 + (j - (k + 1)) = j by omega]
  have e2 : (sallk ps s k)[j]? = if j < k then (sall ps s)[j]? else s[j]? := by
    unfold sallk
    by_cases hj : j < k
    · rw [if_pos hj, List.getElem?_append_left (by omega), List.getElem?_take_of_lt (by omega)]
    · rw [if_neg hj, List.getElem?_append_right (by omega), h1, List.getElem?_drop, show k + (j - k) = j by omega]
  rw [e1]
  by_cases hd : (s.getD k default).p.isSome = true
  · rw [if_pos hd, List.getElem?_modify, e2]
    rw [if_pos hd] at hv
    by_cases hj : j < k
    · rw [if_pos hj, if_pos hj]
      have : ¬ k = j := by omega
      simp [this]
    · rw [if_neg hj, if_neg hj]
      by_cases hj2 : j = k
      · subst hj2
        rw [if_pos rfl, hx, hv]; simp
      · have : ¬ k = j := by omega
        rw [if_neg hj2]; simp [this]
  · rw [if_neg hd, e2]
    rw [if_neg hd] at hv
    by_cases hj : j < k
    · rw [if_pos hj, if_pos hj]
    · rw [if_neg hj, if_neg hj]
      by_cases hj2 : j = k
      · subst hj2; rw [if_pos rfl, hx, hv]
      · rw [if_neg hj2]
end Go.Disk
namespace Go.Proofs.Ytkffgmhaiodagaa
open Go.RowKit Go.Own Go.Disk Go.BigFrame
attribute [local go_sem] setCell_twice str_size
set_option maxHeartbeats 1600000 in
set_option maxRecDepth 100000 in
theorem rflush_any (f : Rt) (d : DS) (w : World) (h : RD w f d) : Calls Try.prog 35 #[.pointer (some ⟨f.p, 0, none⟩)] w fun e w' => e = .returned (.int .i64 (aflush d).1) ∧ RD w' f (aflush d).2 ∧ Chg f.all w w' := by
  have c1 : w.cell? ⟨f.p, 1, none⟩ = some (.bool d.off) := h.head.cell rfl
  go_enter Try.func35, Try.ntmps35
  by_cases hoff : d.off = true
  · have e : aflush d = (25, d) := by simp [aflush, hoff]
    have E := Lib.hid e; clear e
    rw [hoff] at c1
    go_wp2
    go_ret
    rw [E.out]; exact ⟨rfl, h, Chg.refl _ _⟩
  · have hoff' : d.off = false := by simpa using hoff
    rw [hoff'] at c1
    by_cases hs : (astep d).1 = 0
    · have hk : aflush d = (0, { (astep d).2 with s := settleTo [] (apend d.s) d.s }) := by simp [aflush, hoff', hs]
      obtain ⟨d1, hd1⟩ : ∃ d1, d1 = (astep d).2 := ⟨_, rfl⟩
      have hs1 : d1.s = d.s := by rw [hd1, astep_s]
      rw [← hd1, ← hs1, settleTo_sall] at hk
      have HK := Lib.hid hk; clear hk
      have HS1 := Lib.hid hs1; clear hs1
      go_wp2_with fail
      refine (rstep_any f d _ h).mono ?_
      rintro e w1 ⟨rfl, h1, hc1⟩
      rw [hs]
      rw [← hd1] at h1
      have HD1 := Lib.hid hd1; clear hd1
      go_wp2
      have hlen : d1.s.length ≤ 4096 := h1.ok.most
      go_loopw [4] (fun c wr => ∃ k : Nat, k ≤ d1.s.length ∧ c = .int .i64 k ∧ RD wr f { d1 with s := sallk [] d1.s k } ∧ Chg f.all w1 wr) (fun c _ => d1.s.length - (intOf c).toNat)
      case atStart => exact ⟨0, by omega, rfl, by rw [sallk_zero]; exact h1, Chg.refl _ _⟩
      case round =>
        obtain ⟨k, hk, rfl, hP, hC⟩ := hrel
        have hll := sallk_length [] d1.s hk
        have c0 : wr.cell? ⟨f.p, 0, none⟩ = some (.slice (some ⟨f.sb, 0, none⟩) d1.s.length f.cap) := by have := hP.head.cell (i := 0) rfl; rw [this]; simp only [hll]
        by_cases hkl : k < d1.s.length
        · have hat := sallk_at [] d1.s hkl
          have hil' : k < ({ d1 with s := sallk [] d1.s k } : DS).s.length := by show k < (sallk [] d1.s k).length; rw [hll]; exact hkl
          have hse : sec { d1 with s := sallk [] d1.s k } k = d1.s.getD k default := hat
          have hsu := sallk_succ [] d1.s hkl
          obtain ⟨b, hb⟩ : ∃ b, b = (d1.s.getD k default).p.isSome := ⟨_, rfl⟩
          have d2 : wr.cell? ⟨f.sb, k * 4 + 2, none⟩ = some (.bool b) := hP.cell hil' 2 (by decide) (by rw [hse, hb]; rfl)
          rw [← hb] at hsu
          have HL := Lib.hid hll; clear hll
          have HSU := Lib.hid hsu; clear hsu
          have HB := Lib.hid hb; clear hb
          have HSE := Lib.hid hse; clear hse
          have HA := Lib.hid hat; clear hat
          have HIL := Lib.hid hil'; clear hil'
          cases b with
          | true =>
            go_wp2_with fail
            refine (rsettle_any f { d1 with s := sallk [] d1.s k } k 64 _ hP (inR_nat HIL.out) (by rw [HSE.out, ← HB.out])).mono ?_
            rintro e w3 ⟨rfl, hP', hC'⟩
            go_wp2
            go_roundw
            case rel =>
              refine ⟨k + 1, by omega, by go_num, ?_, hC.trans hC'⟩
              rw [HSU.out]
              exact hP'
            case measure => simp [intOf]; omega
          | false =>
            go_wp2
            go_roundw
            case rel =>
              refine ⟨k + 1, by omega, by go_num, ?_, hC⟩
              rw [HSU.out]
              exact hP
            case measure => simp [intOf]; omega
        · obtain rfl : k = d1.s.length := by omega
          rw [sallk_all] at hP
          clear hll
          go_wp2
          go_ret
          rw [HK.out]
          exact ⟨rfl, hP, (hc1.mono (by simp [Rt.all])).trans hC⟩
    · have hk : aflush d = astep d := by simp [aflush, hoff', hs]
      have hs' : ((astep d).1 == 0) = false := by simpa using hs
      have hs2 : ((astep d).1 != 0) = true := by simpa using hs
      have HK := Lib.hid hk; clear hk
      go_wp2_with fail
      refine (rstep_any f d _ h).mono ?_
      rintro e w1 ⟨rfl, h1, hc1⟩
      go_wp2
      go_ret
      rw [HK.out]
      exact ⟨rfl, h1, hc1.mono (by simp [Rt.all])⟩
end Go.Proofs.Ytkffgmhaiodagaa
