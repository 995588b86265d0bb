/- Mount of the program's disk. -/
import Derived.Test.YtkffgmhaiodagaaD9
namespace Go.Proofs.Ytkffgmhaiodagaa
open Go.RowKit Go.Own Go.Disk
attribute [local go_sem] setCell_twice str_size
set_option maxHeartbeats 1600000 in
set_option maxRecDepth 100000 in
theorem mount_any (f : Ft) (d : DS) (ps : List Int) (sp : Option Addr) (pc : Nat) (w : World) (h : PD w f d) (hps : ps ≠ [] → Sl w 1 (.slice sp ps.length pc) ps.length (ps.map fun z => .int .i64 z)) (hpn : ps ≠ [] → ∀ b, (Value.slice sp ps.length pc).ownBlock = some b → b ∉ f.all) :
    Calls Try.prog 26 #[.pointer (some ⟨f.p, 0, none⟩), .slice sp ps.length pc] w fun e w' => e = .returned (.tuple #[]) ∧ PD w' f (amount d ps) ∧ Chg f.all w w' := by
  go_enter Try.func26, Try.ntmps26
  go_wp2_with (go_at_call 22; refine (pending_any f d _ h).mono ?_; rintro e w2 ⟨v, rfl, hrow, hb2⟩; obtain ⟨sa, cap, rfl, hge⟩ := own_slice hrow)
  obtain ⟨L, hL⟩ : ∃ L, L = apend d.s := ⟨_, rfl⟩
  have hLs : L.Pairwise (· < ·) := by rw [hL]; exact range_filter_lt _ _
  have hI0 := LoopI.start ps d.s
  have hLl : L.length ≤ 4096 := by
    have e2 := List.length_filter_le (fun i => (d.s.getD i default).p.isSome) (List.range d.s.length)
    rw [List.length_range] at e2
    have := h.ok.most
    rw [hL]; unfold apend; omega
  have hsl := Sl.of_owns hrow
  have hF : ∀ x ∈ f.all, x < w.heap.size := h.lt
  have h2 := h.below hb2
  have hps2 := fun hne => (hps hne).below hb2
  have HK : Hid (amount d ps = { s := settleTo ps L d.s, off := false, left := -1 }) := Lib.hid (by rw [hL]; rfl)
  rw [← hL] at hI0 hsl hge
  try rw [← hL]
  have HL := Lib.hid hL; clear hL
  clear hrow
  have HSL := Lib.hid hsl; clear hsl
  have HPS := Lib.hid hps2; clear hps2 hps
  go_loopw [10] (fun c wr => ∃ k : Nat, ∃ s : List Sec, k ≤ L.length ∧ c = .int .i64 k ∧ LoopI ps L d.s k s ∧ PD wr f { d with s := s } ∧ s.length = d.s.length ∧ Chg f.all w2 wr) (fun c _ => L.length - (intOf c).toNat)
  case atStart => exact ⟨0, d.s, by omega, rfl, hI0, h2, rfl, Chg.refl _ _⟩
  case round =>
    obtain ⟨k, s, hk, rfl, hI, hP, hsl', hC⟩ := hrel
    by_cases hkl : k < L.length
    · obtain ⟨hj1, hj2⟩ := hI.here hkl
      have hS := HSL.out.chg hC (fun b hb hx => by have := hge b hb; have := hF b hx; omega)
      obtain ⟨b0, off, cap', e0, hCs, _⟩ := sl_cell hS (by omega)
      injection e0 with e0 _ e1
      subst e0 e1
      have cx : wr.cell? ⟨b0, off + k, none⟩ = some (.int .i64 (L.getD k 0)) := hCs k _ (by rw [List.getElem?_map, List.getElem?_eq_getElem hkl, List.getD_eq_getElem?_getD, List.getElem?_eq_getElem hkl]; rfl)
      have HI := Lib.hid hI; clear hI
      obtain ⟨j, hj⟩ : ∃ j, j = L.getD k 0 := ⟨_, rfl⟩
      have hI' := HI.out.step hLs hkl
      rw [← hj] at cx hj1 hj2 hI'
      have HI' := Lib.hid hI'; clear hI'
      have HJ := Lib.hid hj; clear hj
      have hjR : inR { d with s := s } j = true := inR_nat hj1
      by_cases hpk : k < ps.length
      · have hne : ps ≠ [] := by intro e; rw [e] at hpk; simp at hpk
        have hS2 := (HPS.out hne).chg hC (hpn hne)
        clear hne
        obtain ⟨b1, off1, cap1, e0, hCs1, _⟩ := sl_cell hS2 (by omega)
        injection e0 with e0 _ e1
        subst e0 e1
        obtain ⟨p, hp⟩ : ∃ p, p = ps.getD k 64 := ⟨_, rfl⟩
        have cp : wr.cell? ⟨b1, off1 + k, none⟩ = some (.int .i64 p) := hCs1 k _ (by rw [List.getElem?_map, List.getElem?_eq_getElem hpk, hp, List.getD_eq_getElem?_getD, List.getElem?_eq_getElem hpk]; rfl)
        have HP := Lib.hid hp; clear hp
        go_wp2_with (go_at_call 51; refine (settle_any f { d with s := s } j p _ hP hjR hj2).mono ?_; rintro e w3 ⟨rfl, hP', hC'⟩)
        go_roundw
        case rel => exact ⟨k + 1, s.modify j (settle1 p), by omega, by go_num, by rw [HP.out]; exact HI'.out, hP', by simp [hsl'], hC.trans hC'⟩
        case measure => simp [intOf]; omega
      · have hp : ps.getD k 64 = 64 := by rw [List.getD_eq_getElem?_getD, List.getElem?_eq_none (by omega)]; rfl
        have HP := Lib.hid hp; clear hp
        go_wp2_with (go_at_call 51; refine (settle_any f { d with s := s } j 64 _ hP hjR hj2).mono ?_; rintro e w3 ⟨rfl, hP', hC'⟩)
        go_roundw
        case rel => exact ⟨k + 1, s.modify j (settle1 64), by omega, by go_num, by rw [← HP.out]; exact HI'.out, hP', by simp [hsl'], hC.trans hC'⟩
        case measure => simp [intOf]; omega
    · obtain rfl : k = L.length := by omega
      have hfin := hI.last
      obtain ⟨l, hB, _⟩ := hP.head
      have hfr := hB.frozen
      have c3 : wr.cell? ⟨f.p, 3, none⟩ = some (.bool d.off) := hB.cell rfl
      have c4 : wr.cell? ⟨f.p, 4, none⟩ = some (.int .i64 l) := hB.cell rfl
      have kk := hP.withHead (d' := { s := s, off := false, left := -1 }) (w' := (wr.setCell ⟨f.p, 3, none⟩ (.bool false)).setCell ⟨f.p, 4, none⟩ (.int .i64 (-1))) rfl (by simp) (-1) ((hB.set 3 _).set 4 _) rfl (by decide) (((Chg.refl _ _).set _ (by simp)).set _ (by simp))
      have hc9 : Chg f.all wr ((wr.setCell ⟨f.p, 3, none⟩ (.bool false)).setCell ⟨f.p, 4, none⟩ (.int .i64 (-1))) := ((Chg.refl _ _).set _ (by simp [Ft.all])).set _ (by simp [Ft.all])
      have HF := Lib.hid hfin; clear hfin
      go_wp2
      refine bodyPost_end (results_none rfl _ _ _) rfl ?_
      rw [HK.out, ← HF.out]
      exact ⟨rfl, kk, ((Chg.of_below hb2).trans hC).trans hc9⟩
end Go.Proofs.Ytkffgmhaiodagaa
