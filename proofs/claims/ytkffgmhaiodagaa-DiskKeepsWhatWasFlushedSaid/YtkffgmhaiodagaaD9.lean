/- Flush of the program's disk. -/
import Derived.Test.YtkffgmhaiodagaaD8
namespace Go.Disk
open Go.RowKit Go.Own
/-- Behind k rounds over the list L of pending sectors. -/
structure LoopI (ps : List Int) (L : List Nat) (s0 : List Sec) (k : Nat) (s : List Sec) : Prop where
  fin : settleTo (ps.drop k) (L.drop k) s = settleTo ps L s0
  dirty : ∀ j ∈ L.drop k, j < s.length ∧ (s.getD j default).p.isSome = true
theorem LoopI.start (ps : List Int) (s0 : List Sec) : LoopI ps (apend s0) s0 0 s0 := by
  refine ⟨rfl, fun j hj => ?_⟩
  obtain ⟨h1, h2⟩ := List.mem_filter.1 hj
  exact ⟨List.mem_range.1 h1, h2⟩
theorem LoopI.step {ps : List Int} {L : List Nat} {s0 s : List Sec} {k : Nat} (hL : L.Pairwise (· < ·)) (hk : k < L.length) (h : LoopI ps L s0 k s) :
    LoopI ps L s0 (k + 1) (s.modify (L.getD k 0) (settle1 (ps.getD k 64))) := by
  have e : L.drop k = L.getD k 0 :: L.drop (k + 1) := by
    rw [List.drop_eq_getElem_cons hk]; simp [hk]
  obtain ⟨h1, h2⟩ := h
  rw [e] at h1 h2
  refine ⟨?_, fun j hj => ?_⟩
  · rw [← h1]
    simp only [settleTo, List.tail_drop]
    congr 3
    simp [List.headD_eq_head?_getD, List.head?_drop]
  · obtain ⟨h3, h4⟩ := h2 j (List.mem_cons_of_mem _ hj)
    have hlt : L.getD k 0 < j := by
      have hp := (hL.drop (i := k))
      rw [e, List.pairwise_cons] at hp
      exact hp.1 j hj
    refine ⟨by simpa using h3, ?_⟩
    have hne : ¬ L.getD k 0 = j := by omega
    rw [List.getD_eq_getElem?_getD, List.getElem?_modify]
    simp only [hne, if_false, id_map']
    rw [List.getD_eq_getElem?_getD] at h4
    exact h4
theorem LoopI.here {ps : List Int} {L : List Nat} {s0 s : List Sec} {k : Nat} (hk : k < L.length) (h : LoopI ps L s0 k s) : L.getD k 0 < s.length ∧ (s.getD (L.getD k 0) default).p.isSome = true := by
  have e : L.drop k = L.getD k 0 :: L.drop (k + 1) := by
    rw [List.drop_eq_getElem_cons hk]; simp [hk]
  exact h.dirty _ (by rw [e]; exact List.mem_cons_self)
theorem LoopI.last {ps : List Int} {L : List Nat} {s0 s : List Sec} (h : LoopI ps L s0 L.length s) : s = settleTo ps L s0 := by
  have := h.fin
  rw [List.drop_of_length_le (Nat.le_refl _)] at this
  rw [← this]; rfl
end Go.Disk
namespace Go.Proofs.Ytkffgmhaiodagaa
open Go.RowKit Go.Own Go.Disk
attribute [local go_sem] setCell_twice str_size
theorem sl_cell {w : World} {n : Nat} {v : Value} {vs : List Value} (h : Sl w 1 v n vs) (hn : 0 < n) : ∃ b off cap, v = .slice (some ⟨b, off, none⟩) n cap ∧ Cells w b off vs ∧ v.ownBlock = some b := by
  obtain ⟨_, ⟨_, h0⟩ | ⟨b, off, cap, rfl, _, _, hC, _⟩⟩ := h
  · omega
  · exact ⟨b, off, cap, rfl, hC, rfl⟩
theorem inR_nat {d : DS} {j : Nat} (h : j < d.s.length) : inR d j = true := by simp [inR, h]
set_option maxHeartbeats 1600000 in
set_option maxRecDepth 100000 in
theorem flush_any (f : Ft) (d : DS) (w : World) (h : PD w f d) : Calls Try.prog 25 #[.pointer (some ⟨f.p, 0, none⟩)] w fun e w' => e = .returned (.int .i64 (aflush d).1) ∧ PD w' f (aflush d).2 ∧ Chg f.all w w' := by
  have hpos := h.ok.pos
  have h0R : inR d 0 = true := by simp [inR]; omega
  go_enter Try.func25, Try.ntmps25
  by_cases hoff : d.off = true
  · have hc : acheck d 0 = 25 := by simp [acheck, hoff]
    have hk : aflush d = (25, d) := by simp [aflush, hoff]
    go_wp2_with (go_at_call 46; refine (check_any f d 0 w h).mono ?_; rintro e w' ⟨rfl, rfl⟩; rw [hc])
    go_ret
    rw [hk]
    exact ⟨rfl, h, Chg.refl _ _⟩
  · have hoff' : d.off = false := by simpa using hoff
    have hc : acheck d 0 = 0 := by simp [acheck, hoff', h0R]
    by_cases hs : (astep d).1 = 0
    · have hk : aflush d = (0, { (astep d).2 with s := settleTo [] (apend d.s) d.s }) := by simp [aflush, hoff', hs]
      obtain ⟨d1, hd1⟩ : ∃ d1, d1 = (astep d).2 := ⟨_, rfl⟩
      have hs1 : d1.s = d.s := by rw [hd1, astep_s]
      rw [← hd1, ← hs1] at hk
      have HK := Lib.hid hk; clear hk
      have HS1 := Lib.hid hs1; clear hs1
      have HD1 := Lib.hid hd1; clear hd1
      go_wp2_with (first | (go_at_call 46; refine (check_any f d 0 w h).mono ?_; rintro e w' ⟨rfl, rfl⟩; rw [hc]) | (go_at_call 47; refine (step_any f d _ h).mono ?_; rintro e w1 ⟨rfl, h1, hc1⟩; rw [hs]; rw [← HD1.out] at h1) | (go_at_call 22; refine (pending_any f d1 _ h1).mono ?_; rintro e w2 ⟨v, rfl, hrow, hb2⟩; obtain ⟨sa, cap, rfl, hge⟩ := own_slice hrow))
      obtain ⟨L, hL⟩ : ∃ L, L = apend d1.s := ⟨_, rfl⟩
      have hLs : L.Pairwise (· < ·) := by rw [hL]; exact range_filter_lt _ _
      have hI0 := LoopI.start [] d1.s
      have hLl : L.length ≤ 4096 := by
        have e2 := List.length_filter_le (fun i => (d1.s.getD i default).p.isSome) (List.range d1.s.length)
        rw [List.length_range] at e2
        have := h1.ok.most
        rw [hL]; unfold apend; omega
      have hsl := Sl.of_owns hrow
      have hF : ∀ x ∈ f.all, x < w1.heap.size := h1.lt
      have h2 := h1.below hb2
      rw [← hL] at hI0 hsl hge HK
      try rw [← hL]
      have HL := Lib.hid hL; clear hL
      clear hrow
      have hC2 : Chg f.all _ w2 := (hc1.mono (by simp [Ft.all])).trans (.of_below hb2)
      go_loopw [20] (fun c wr => ∃ k : Nat, ∃ s : List Sec, k ≤ L.length ∧ c = .int .i64 k ∧ LoopI [] L d1.s k s ∧ PD wr f { d1 with s := s } ∧ s.length = d1.s.length ∧ Chg f.all w2 wr) (fun c _ => L.length - (intOf c).toNat)
      case atStart => exact ⟨0, d1.s, by omega, rfl, hI0, h2, rfl, Chg.refl _ _⟩
      case round =>
        obtain ⟨k, s, hk, rfl, hI, hP, hsl', hC⟩ := hrel
        by_cases hkl : k < L.length
        · obtain ⟨hj1, hj2⟩ := hI.here hkl
          have hS := hsl.chg hC (fun b hb hx => by have := hge b hb; have := hF b hx; omega)
          obtain ⟨b0, off, cap', e0, hCs, _⟩ := sl_cell hS (by omega)
          injection e0 with e0 _ e1
          subst e0 e1
          have cx : wr.cell? ⟨b0, off + k, none⟩ = some (.int .i64 (L.getD k 0)) := hCs k _ (by rw [List.getElem?_map, List.getElem?_eq_getElem hkl, List.getD_eq_getElem?_getD, List.getElem?_eq_getElem hkl]; rfl)
          have HI := Lib.hid hI; clear hI
          have HSL := Lib.hid hsl; clear hsl
          obtain ⟨j, hj⟩ : ∃ j, j = L.getD k 0 := ⟨_, rfl⟩
          have hI' := HI.out.step hLs hkl
          rw [← hj] at cx hj1 hj2 hI'
          have HI' := Lib.hid hI'; clear hI'
          have HJ := Lib.hid hj; clear hj
          have hjR : inR { d1 with s := s } j = true := inR_nat hj1
          go_wp2_with (go_at_call 51; refine (settle_any f { d1 with s := s } j 64 _ hP hjR hj2).mono ?_; rintro e w3 ⟨rfl, hP', hC'⟩)
          go_roundw
          case rel =>
            have hm : ({ d1 with s := s } : DS).s.modify ((j : Int).toNat) (settle1 64) = s.modify j (settle1 64) := rfl
            exact ⟨k + 1, s.modify j (settle1 64), by omega, by go_num, HI'.out, hP', by simp [hsl'], hC.trans hC'⟩
          case measure => simp [intOf]; omega
        · obtain rfl : k = L.length := by omega
          have hfin := hI.last
          go_wp2
          go_ret
          rw [HK.out]
          subst hfin
          exact ⟨rfl, hP, hC2.trans hC⟩
    · have hk : aflush d = astep d := by simp [aflush, hoff', hs]
      have hs' : ((astep d).1 == 0) = false := by simpa using hs
      go_wp2_with (first | (go_at_call 46; refine (check_any f d 0 w h).mono ?_; rintro e w' ⟨rfl, rfl⟩; rw [hc]) | (go_at_call 47; refine (step_any f d _ h).mono ?_; rintro e w1 ⟨rfl, h1, hc1⟩))
      go_ret
      rw [hk]
      exact ⟨rfl, h1, hc1.mono (by simp [Ft.all])⟩
end Go.Proofs.Ytkffgmhaiodagaa
