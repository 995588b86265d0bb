/- Read, Write, Wear of the reference. -/
import Derived.Test.YtkffgmhaiodagaaR0
namespace Go.Proofs.Ytkffgmhaiodagaa
open Go.RowKit Go.Own Go.Disk Go.BigFrame
attribute [local go_sem] setCell_twice str_size
theorem RD.upd {w w' : World} {f : Rt} {d : DS} (h : RD w f d) {i : Int} (hi : inR d i = true) (g : Sec → Sec) (hg : ∀ x, x.t.length = 64 → (∀ q, x.p = some q → q.length = 64) → (g x).t.length = 64 ∧ ∀ q, (g x).p = some q → q.length = 64)
    (hb : Blk w' f.sb (rcells (d.s.modify i.toNat g) ++ f.sp) 54) (hc : Chg [f.sb] w w') : RD w' f (upd d i g) := by
  obtain ⟨h1, h2, h3, h4, h5⟩ := h
  refine ⟨by simpa [Disk.upd] using h1, ?_, hb, h4.upd _ _ hg, h5⟩
  have e : (Disk.upd d i g).s.length = d.s.length := by simp [Disk.upd]
  rw [e]
  exact h2.chg hc (by simp; exact h5)
theorem RD.cell {w : World} {f : Rt} {d : DS} (h : RD w f d) {n : Nat} (hn : n < d.s.length) (j : Nat) (hj : j < 4) {v : Value} (hv : (rsec (sec d n))[j]? = some v) : w.cell? ⟨f.sb, n * 4 + j, none⟩ = some v := by
  refine h.secs.cell ?_
  rw [rcells_at hn _ j hj]
  exact hv
theorem rread_any (f : Rt) (d : DS) (i : Int) (w : World) (h : RD w f d) : Calls Try.prog 34 #[.pointer (some ⟨f.p, 0, none⟩), .int .i64 i] w fun e w' => e = .returned (.tuple #[str (aread d i).1, .int .i64 (aread d i).2]) ∧ w' = w := by
  have c0 : w.cell? ⟨f.p, 0, none⟩ = some (.slice (some ⟨f.sb, 0, none⟩) d.s.length f.cap) := h.head.cell rfl
  have c1 : w.cell? ⟨f.p, 1, none⟩ = some (.bool d.off) := h.head.cell rfl
  go_enter Try.func34, Try.ntmps34
  by_cases hoff : d.off = true
  · have e : aread d i = ([], 25) := by simp [aread, acheck, hoff]
    rw [hoff] at c1
    go_wp2
    go_ret2
    rw [e]; exact ⟨rfl, rfl⟩
  · have hoff' : d.off = false := by simpa using hoff
    rw [hoff'] at c1
    by_cases hi : inR d i = true
    · obtain ⟨_, hil, hi0, _⟩ := sec_mem hi
      obtain ⟨n, hn⟩ : ∃ n : Nat, n = i.toNat := ⟨_, rfl⟩
      obtain rfl : i = (n : Int) := by omega
      have hil' : n < d.s.length := by omega
      clear hn hil
      have d0 : w.cell? ⟨f.sb, n * 4, none⟩ = some (str (sec d n).t) := h.cell hil' 0 (by decide) rfl
      have d1 := h.cell hil' 1 (by decide) (v := str ((sec d n).p.getD [])) rfl
      have d2 := h.cell hil' 2 (by decide) (v := .bool (sec d n).p.isSome) rfl
      cases hp : (sec d n).p with
      | none =>
        have e : aread d n = ((sec d n).t, 0) := by simp [aread, acheck, hoff', hi, hp]
        rw [hp] at d1 d2
        simp only [Option.isSome_none] at d2
        go_wp2_with (go_at_call 55; refine (ris_any f d n w h).mono ?_; rintro e w' ⟨rfl, rfl⟩; rw [hi])
        go_ret2
        rw [e]; exact ⟨rfl, rfl⟩
      | some q =>
        have e : aread d n = (q, 0) := by simp [aread, acheck, hoff', hi, hp]
        rw [hp] at d1 d2
        simp only [Option.isSome_some, Option.getD_some] at d1 d2
        go_wp2_with (go_at_call 55; refine (ris_any f d n w h).mono ?_; rintro e w' ⟨rfl, rfl⟩; rw [hi])
        go_ret2
        rw [e]; exact ⟨rfl, rfl⟩
    · have hi' : inR d i = false := by simpa using hi
      have e : aread d i = ([], 1) := by simp [aread, acheck, hoff', hi']
      go_wp2_with (go_at_call 55; refine (ris_any f d i w h).mono ?_; rintro e w' ⟨rfl, rfl⟩; rw [hi'])
      go_ret2
      rw [e]; exact ⟨rfl, rfl⟩
theorem rwear_any (f : Rt) (d : DS) (i : Int) (w : World) (h : RD w f d) : Calls Try.prog 39 #[.pointer (some ⟨f.p, 0, none⟩), .int .i64 i] w fun e w' => e = .returned (.int .i64 (awear d i).1) ∧ RD w' f (awear d i).2 ∧ Chg f.all w w' := by
  have c0 : w.cell? ⟨f.p, 0, none⟩ = some (.slice (some ⟨f.sb, 0, none⟩) d.s.length f.cap) := h.head.cell rfl
  have hfr := h.secs.frozen
  go_enter Try.func39, Try.ntmps39
  by_cases hi : inR d i = true
  · obtain ⟨_, hil, hi0, _⟩ := sec_mem hi
    obtain ⟨n, hn⟩ : ∃ n : Nat, n = i.toNat := ⟨_, rfl⟩
    obtain rfl : i = (n : Int) := by omega
    have hil' : n < d.s.length := by omega
    clear hn hil
    have d3 := h.cell hil' 3 (by decide) (v := .bool (sec d n).w) rfl
    have e : awear d n = (0, upd d n fun x => { x with w := true }) := by simp [awear, hi]
    have hset := h.secs.set (n * 4 + 3) (.bool true)
    rw [rcells_set hil' (fun x => { x with w := true }) f.sp 3 (by decide) (.bool true) rfl] at hset
    have hP := h.upd hi (fun x => { x with w := true }) (fun x h1 h2 => ⟨h1, h2⟩) hset ((Chg.refl _ _).set _ (by simp))
    have E := Lib.hid e; clear e
    go_wp2_with (go_at_call 55; refine (ris_any f d n w h).mono ?_; rintro e w' ⟨rfl, rfl⟩; rw [hi])
    go_ret
    rw [E.out]
    exact ⟨rfl, hP, (Chg.refl _ _).set _ (by simp [Rt.all])⟩
  · have hi' : inR d i = false := by simpa using hi
    have e : awear d i = (1, d) := by simp [awear, hi']
    have E := Lib.hid e; clear e
    go_wp2_with (go_at_call 55; refine (ris_any f d i w h).mono ?_; rintro e w' ⟨rfl, rfl⟩; rw [hi'])
    go_ret
    rw [E.out]
    exact ⟨rfl, h, Chg.refl _ _⟩
set_option maxHeartbeats 1000000 in
theorem rwrite_any (f : Rt) (d : DS) (i : Int) (b : List UInt8) (w : World) (h : RD w f d) : Calls Try.prog 33 #[.pointer (some ⟨f.p, 0, none⟩), .int .i64 i, str b] w fun e w' => e = .returned (.int .i64 (awrite d i b).1) ∧ RD w' f (awrite d i b).2 ∧ Chg f.all w w' := by
  have c1 : w.cell? ⟨f.p, 1, none⟩ = some (.bool d.off) := h.head.cell rfl
  go_enter Try.func33, Try.ntmps33
  by_cases hoff : d.off = true
  · have e : awrite d i b = (25, d) := by simp [awrite, acheck, hoff]
    have E := Lib.hid e; clear e
    rw [hoff] at c1
    go_wp2
    go_ret
    rw [E.out]; exact ⟨rfl, h, Chg.refl _ _⟩
  · have hoff' : d.off = false := by simpa using hoff
    rw [hoff'] at c1
    by_cases hi : inR d i = true
    · by_cases hb : b.length = 64
      · have hb' : ((b.length : Int) != 64) = false := by simp [hb]
        by_cases hs : (astep d).1 = 0
        · have e : awrite d i b = (0, upd (astep d).2 i fun x => { x with p := some b }) := by simp [awrite, acheck, hoff', hi, hb, hs]
          obtain ⟨d1, hd1⟩ : ∃ d1, d1 = (astep d).2 := ⟨_, rfl⟩
          have hi1 : inR d1 i = true := by rw [hd1]; unfold inR at hi ⊢; rw [astep_s]; exact hi
          rw [← hd1] at e
          have E := Lib.hid e; clear e
          have HB := Lib.hid hb; clear hb
          obtain ⟨_, hil, hi0, _⟩ := sec_mem hi1
          obtain ⟨n, hn⟩ : ∃ n : Nat, n = i.toNat := ⟨_, rfl⟩
          obtain rfl : i = (n : Int) := by omega
          have hil' : n < d1.s.length := by omega
          clear hn hil
          go_wp2_with (go_at_call 55; refine (ris_any f d n w h).mono ?_; rintro e w' ⟨rfl, rfl⟩; rw [hi])
          go_wp2_with fail
          refine (rstep_any f d _ h).mono ?_
          rintro e w1 ⟨rfl, h1, hc1⟩
          rw [hs]
          rw [← hd1] at h1
          have HD := Lib.hid hd1; clear hd1
          have k0 : w1.cell? ⟨f.p, 0, none⟩ = some (.slice (some ⟨f.sb, 0, none⟩) d1.s.length f.cap) := h1.head.cell rfl
          have t1 := h1.cell hil' 1 (by decide) (v := str ((sec d1 n).p.getD [])) rfl
          have t2 := h1.cell hil' 2 (by decide) (v := .bool (sec d1 n).p.isSome) rfl
          have hfr := h1.secs.frozen
          have hne : f.p ≠ f.sb := h1.apart
          have hset := (h1.secs.set (n * 4 + 1) (str b)).set (n * 4 + 2) (.bool true)
          rw [rcells_set2 hil' (fun x => { x with p := some b }) f.sp 1 2 (by decide) (by decide) (str b) (.bool true) rfl] at hset
          have hc2 : Chg [f.sb] w1 ((w1.setCell ⟨f.sb, n * 4 + 1, none⟩ (str b)).setCell ⟨f.sb, n * 4 + 2, none⟩ (.bool true)) := ((Chg.refl _ _).set _ (by simp)).set _ (by simp)
          have hP := h1.upd hi1 (fun x => { x with p := some b }) (fun x e1 e2 => ⟨e1, fun q hq => by simp at hq; rw [← hq]; exact HB.out⟩) hset hc2
          have hcc : Chg f.all w' ((w1.setCell ⟨f.sb, n * 4 + 1, none⟩ (str b)).setCell ⟨f.sb, n * 4 + 2, none⟩ (.bool true)) := (hc1.mono (by simp [Rt.all])).trans (hc2.mono (by simp [Rt.all]))
          clear hset hc2
          go_wp2
          go_ret
          rw [E.out]
          exact ⟨rfl, hP, hcc⟩
        · have e : awrite d i b = astep d := by simp [awrite, acheck, hoff', hi, hb, hs]
          have hs' : ((astep d).1 == 0) = false := by simpa using hs
          have hs2 : ((astep d).1 != 0) = true := by simpa using hs
          have E := Lib.hid e; clear e
          go_wp2_with (go_at_call 55; refine (ris_any f d i w h).mono ?_; rintro e w' ⟨rfl, rfl⟩; rw [hi])
          go_wp2_with fail
          refine (rstep_any f d _ h).mono ?_
          rintro e w1 ⟨rfl, h1, hc1⟩
          go_wp2
          go_ret
          rw [E.out]
          exact ⟨rfl, h1, hc1.mono (by simp [Rt.all])⟩
      · have hb' : ((b.length : Int) != 64) = true := by simp; omega
        have e : awrite d i b = (1, d) := by simp [awrite, acheck, hoff', hi, hb]
        have E := Lib.hid e; clear e
        go_wp2_with (go_at_call 55; refine (ris_any f d i w h).mono ?_; rintro e w' ⟨rfl, rfl⟩; rw [hi])
        go_ret
        rw [E.out]
        exact ⟨rfl, h, Chg.refl _ _⟩
    · have hi' : inR d i = false := by simpa using hi
      have e : awrite d i b = (1, d) := by simp [awrite, acheck, hoff', hi']
      have E := Lib.hid e; clear e
      go_wp2_with (go_at_call 55; refine (ris_any f d i w h).mono ?_; rintro e w' ⟨rfl, rfl⟩; rw [hi'])
      go_ret
      rw [E.out]
      exact ⟨rfl, h, Chg.refl _ _⟩
end Go.Proofs.Ytkffgmhaiodagaa
