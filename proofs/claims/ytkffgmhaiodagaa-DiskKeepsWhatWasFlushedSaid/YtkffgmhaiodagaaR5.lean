/- Mount of the reference. -/
import Derived.Test.YtkffgmhaiodagaaR4
namespace Go.Proofs.Ytkffgmhaiodagaa
open Go.RowKit Go.Own Go.Disk Go.BigFrame
attribute [local go_sem] setCell_twice str_size
set_option maxHeartbeats 1600000 in
set_option maxRecDepth 100000 in
theorem rmount_any (f : Rt) (d : DS) (ps : List Int) (sp : Option Addr) (pc : Nat) (w : World) (h : RD w f d) (hps : ps ≠ [] → Sl w 1 (.slice sp ps.length pc) ps.length (ps.map fun z => .int .i64 z)) (hpn : ps ≠ [] → ∀ b, (Value.slice sp ps.length pc).ownBlock = some b → b ∉ f.all) :
    Calls Try.prog 37 #[.pointer (some ⟨f.p, 0, none⟩), .slice sp ps.length pc] w fun e w' => e = .returned (.tuple #[]) ∧ RD w' f (amount d ps) ∧ Chg f.all w w' := by
  go_enter Try.func37, Try.ntmps37
  have HK : Hid (amount d ps = { s := sall ps d.s, off := false, left := -1 }) := Lib.hid (by unfold amount; rw [settleTo_sall])
  have HPS := Lib.hid hps; clear hps
  have hlen : d.s.length ≤ 4096 := h.ok.most
  go_wp2
  go_loopw [4, 5] (fun c4 c5 wr => ∃ k : Nat, k ≤ d.s.length ∧ c5 = .int .i64 k ∧ c4 = .int .i64 (cnt d.s k) ∧ RD wr f { d with s := sallk ps d.s k } ∧ Chg f.all w wr) (fun _ c _ => d.s.length - (intOf c).toNat)
  case atStart => exact ⟨0, by omega, rfl, rfl, by rw [sallk_zero]; exact h, Chg.refl _ _⟩
  case round =>
    obtain ⟨k, hk, rfl, rfl, hP, hC⟩ := hrel
    have hll := sallk_length ps d.s hk
    have c0 : wr.cell? ⟨f.p, 0, none⟩ = some (.slice (some ⟨f.sb, 0, none⟩) d.s.length f.cap) := by have := hP.head.cell (i := 0) rfl; rw [this]; simp only [hll]
    by_cases hkl : k < d.s.length
    · have hat := sallk_at ps d.s hkl
      have hil' : k < ({ d with s := sallk ps d.s k } : DS).s.length := by show k < (sallk ps d.s k).length; rw [hll]; exact hkl
      have hse : sec { d with s := sallk ps d.s k } k = d.s.getD k default := hat
      have hsu := sallk_succ ps d.s hkl
      have hcs := cnt_succ d.s k hkl
      obtain ⟨b, hb⟩ : ∃ b, b = (d.s.getD k default).p.isSome := ⟨_, rfl⟩
      have d2 : wr.cell? ⟨f.sb, k * 4 + 2, none⟩ = some (.bool b) := hP.cell hil' 2 (by decide) (by rw [hse, hb]; rfl)
      rw [← hb] at hsu hcs
      have HL := Lib.hid hll; clear hll
      have HSU := Lib.hid hsu; clear hsu
      have HCS := Lib.hid hcs; clear hcs
      have HB := Lib.hid hb; clear hb
      have HSE := Lib.hid hse; clear hse
      have HA := Lib.hid hat; clear hat
      have HIL := Lib.hid hil'; clear hil'
      obtain ⟨m, hm⟩ : ∃ m, m = cnt d.s k := ⟨_, rfl⟩
      have hm2 : m ≤ 4096 := by
        have : (d.s.take k).countP (fun x => x.p.isSome) ≤ (d.s.take k).length := List.countP_le_length
        rw [List.length_take] at this
        rw [hm]; unfold cnt; omega
      rw [← hm] at HSU HCS
      rw [← hm]
      have HM := Lib.hid hm; clear hm
      cases b with
      | true =>
        by_cases hpk : m < ps.length
        · have hne : ps ≠ [] := by intro e; rw [e] at hpk; simp at hpk
          have hS2 := (HPS.out hne).chg hC (hpn hne)
          clear hne
          obtain ⟨b1, off1, cap1, e0, hCs1, _⟩ := sl_cell hS2 (by omega)
          injection e0 with e0 _ e1
          subst e0 e1
          obtain ⟨p, hp⟩ : ∃ p, p = ps.getD m 64 := ⟨_, rfl⟩
          have cp : wr.cell? ⟨b1, off1 + m, none⟩ = some (.int .i64 p) := hCs1 m _ (by rw [List.getElem?_map, List.getElem?_eq_getElem hpk, hp, List.getD_eq_getElem?_getD, List.getElem?_eq_getElem hpk]; rfl)
          have HP := Lib.hid hp; clear hp
          go_wp2_with fail
          refine (rsettle_any f { d with s := sallk ps d.s k } k p _ hP (inR_nat HIL.out) (by rw [HSE.out, ← HB.out])).mono ?_
          rintro e w3 ⟨rfl, hP', hC'⟩
          go_wp2
          go_roundw
          case rel =>
            refine ⟨k + 1, by omega, by go_num, by rw [HCS.out]; first | rfl | go_num, ?_, hC.trans hC'⟩
            rw [HSU.out, ← HP.out]
            exact hP'
          case measure => simp [intOf]; omega
        · have hp : ps.getD m 64 = 64 := by rw [List.getD_eq_getElem?_getD, List.getElem?_eq_none (by omega)]; rfl
          have HP := Lib.hid hp; clear hp
          go_wp2_with fail
          refine (rsettle_any f { d with s := sallk ps d.s k } k 64 _ hP (inR_nat HIL.out) (by rw [HSE.out, ← HB.out])).mono ?_
          rintro e w3 ⟨rfl, hP', hC'⟩
          go_wp2
          go_roundw
          case rel =>
            refine ⟨k + 1, by omega, by go_num, by rw [HCS.out]; first | rfl | go_num, ?_, hC.trans hC'⟩
            rw [HSU.out, HP.out]
            exact hP'
          case measure => simp [intOf]; omega
      | false =>
        go_wp2
        go_roundw
        case rel =>
          refine ⟨k + 1, by omega, by go_num, by rw [HCS.out]; first | rfl | go_num, ?_, hC⟩
          rw [HSU.out]
          exact hP
        case measure => simp [intOf]; omega
    · obtain rfl : k = d.s.length := by omega
      rw [sallk_all] at hP
      clear hll
      have hB := hP.head
      have hfr := hB.frozen
      have c1 : wr.cell? ⟨f.p, 1, none⟩ = some (.bool d.off) := hB.cell rfl
      have c2 : wr.cell? ⟨f.p, 2, none⟩ = some (.int .i64 d.left) := hB.cell rfl
      have kk := hP.withHead (d' := { s := sall ps d.s, off := false, left := -1 }) (w' := (wr.setCell ⟨f.p, 1, none⟩ (.bool false)).setCell ⟨f.p, 2, none⟩ (.int .i64 (-1))) rfl (by simp) ((hB.set 1 _).set 2 _) (((Chg.refl _ _).set _ (by simp)).set _ (by simp))
      have hc9 : Chg f.all wr ((wr.setCell ⟨f.p, 1, none⟩ (.bool false)).setCell ⟨f.p, 2, none⟩ (.int .i64 (-1))) := ((Chg.refl _ _).set _ (by simp [Rt.all])).set _ (by simp [Rt.all])
      have HF := Lib.hid hP; clear hP
      go_wp2
      refine bodyPost_end (results_none rfl _ _ _) rfl ?_
      rw [HK.out]
      exact ⟨rfl, kk, hC.trans hc9⟩
end Go.Proofs.Ytkffgmhaiodagaa
