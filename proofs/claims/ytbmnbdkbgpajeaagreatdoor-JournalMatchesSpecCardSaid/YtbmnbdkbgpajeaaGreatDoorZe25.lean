/- The reference's disk in memory; its small functions. -/
import Derived.Test.YtbmnbdkbgpajeaaGreatDoorZe23
import Derived.Test.YtbmnbdkbgpajeaaGreatDoorZe13
import Derived.Test.YtbmnbdkbgpajeaaGreatDoorZe14
/- The reference's disk in memory; its small functions. -/
section
namespace Go.Disk
open Go.RowKit Go.Own
/-- A sector of the reference. -/
def rsec (x : Sec) : List Value := [str x.t, str (x.p.getD []), .bool x.p.isSome, .bool x.w]
def rcells (s : List Sec) : List Value := s.flatMap rsec
theorem rcells_length (s : List Sec) : (rcells s).length = s.length * 4 := by
  induction s with
  | nil => rfl
  | cons x s ih =>
    show (rsec x ++ rcells s).length = (x :: s).length * 4
    rw [List.length_append, ih, List.length_cons]; simp [rsec]; omega
theorem rcells_at {s : List Sec} {i : Nat} (hi : i < s.length) (sp : List Value) (j : Nat) (hj : j < 4) : (rcells s ++ sp)[i * 4 + j]? = (rsec (s.getD i default))[j]? := by
  induction s generalizing i with
  | nil => simp at hi
  | cons x s ih =>
    have e : rcells (x :: s) ++ sp = rsec x ++ (rcells s ++ sp) := by simp [rcells]
    have h4 : (rsec x).length = 4 := rfl
    rw [e]
    cases i with
    | zero => rw [List.getElem?_append_left (by omega)]; simp
    | succ i => rw [List.getElem?_append_right (by omega), show (i + 1) * 4 + j - (rsec x).length = i * 4 + j by omega, ih (by simpa using hi)]; rfl
theorem rcells_modify {s : List Sec} {i : Nat} (hi : i < s.length) (f : Sec → Sec) (sp : List Value) : rcells (s.modify i f) ++ sp = (rcells s ++ sp).take (i * 4) ++ rsec (f (s.getD i default)) ++ (rcells s ++ sp).drop (i * 4 + 4) := by
  induction s generalizing i with
  | nil => simp at hi
  | cons x s ih =>
    have e : ∀ y s, rcells (y :: s) ++ sp = rsec y ++ (rcells s ++ sp) := by simp [rcells]
    have h4 : ∀ y, (rsec y).length = 4 := fun _ => rfl
    cases i with
    | zero => simp [e, List.drop_append, h4]
    | succ i =>
      have h2 : (i + 1) * 4 + 4 = (rsec x).length + (i * 4 + 4) := by rw [h4]; omega
      have h1 : (i + 1) * 4 = (rsec x).length + i * 4 := by rw [h4]; omega
      have e2 : rcells ((x :: s).modify (i + 1) f) ++ sp = rsec x ++ (rcells (s.modify i f) ++ sp) := e _ _
      rw [e2, ih (by simpa using hi), e, h2, List.drop_length_add_append, h1, List.take_length_add_append]
      simp
/-- One field of a sector is set. -/
theorem rcells_set {s : List Sec} {i : Nat} (hi : i < s.length) (f : Sec → Sec) (sp : List Value) (j : Nat) (hj : j < 4) (v : Value) (hv : rsec (f (s.getD i default)) = (rsec (s.getD i default)).set j v) : (rcells s ++ sp).set (i * 4 + j) v = rcells (s.modify i f) ++ sp := by
  have hl := rcells_length s
  rw [rcells_modify hi, hv]
  have h4 : ((rcells s ++ sp).drop (i * 4)).take 4 = rsec (s.getD i default) := by
    apply List.ext_getElem?
    intro k
    by_cases hk : k < 4
    · rw [List.getElem?_take_of_lt hk, List.getElem?_drop, rcells_at hi sp k hk]
    · rw [List.getElem?_eq_none (by rw [List.length_take]; omega), List.getElem?_eq_none (by simp [rsec]; omega)]
  have h5 : (rcells s ++ sp).drop (i * 4) = rsec (s.getD i default) ++ (rcells s ++ sp).drop (i * 4 + 4) := by
    rw [← h4, ← List.drop_drop, List.take_append_drop]
  have h6 : ((rcells s ++ sp).take (i * 4)).length = i * 4 := by rw [List.length_take, List.length_append]; omega
  conv => lhs; rw [← List.take_append_drop (i * 4) (rcells s ++ sp), h5]
  rw [List.set_append_right _ _ (by omega), h6, Nat.add_sub_cancel_left, List.set_append_left _ _ (by simp [rsec]; omega), List.append_assoc]
theorem mid_set {α : Type} (A r B : List α) (a j : Nat) (v : α) (ha : A.length = a) (hj : j < r.length) : (A ++ (r ++ B)).set (a + j) v = A ++ (r.set j v ++ B) := by
  rw [List.set_append_right _ _ (by omega), ha, Nat.add_sub_cancel_left, List.set_append_left _ _ hj]
theorem rcells_split {s : List Sec} {i : Nat} (hi : i < s.length) (sp : List Value) : ∃ A B, A.length = i * 4 ∧ rcells s ++ sp = A ++ (rsec (s.getD i default) ++ B) ∧ ∀ f, rcells (s.modify i f) ++ sp = A ++ (rsec (f (s.getD i default)) ++ B) := by
  have hl := rcells_length s
  refine ⟨(rcells s ++ sp).take (i * 4), (rcells s ++ sp).drop (i * 4 + 4), by rw [List.length_take, List.length_append]; omega, ?_, fun f => by rw [rcells_modify hi, List.append_assoc]⟩
  have := rcells_modify hi id sp
  rw [List.append_assoc] at this
  have e : s.modify i id = s := by
    apply List.ext_getElem?
    intro j
    rw [List.getElem?_modify]
    cases s[j]? with
    | none => rfl
    | some x => by_cases h : i = j <;> simp [h]
  rw [e] at this
  exact this
/-- Two fields of a sector are set. -/
theorem rcells_set2 {s : List Sec} {i : Nat} (hi : i < s.length) (f : Sec → Sec) (sp : List Value) (j j' : Nat) (hj : j < 4) (hj' : j' < 4) (v v' : Value) (hv : rsec (f (s.getD i default)) = ((rsec (s.getD i default)).set j v).set j' v') :
    ((rcells s ++ sp).set (i * 4 + j) v).set (i * 4 + j') v' = rcells (s.modify i f) ++ sp := by
  obtain ⟨A, B, hA, h1, h2⟩ := rcells_split hi sp
  rw [h1, h2, hv, mid_set A _ B _ j v hA (by exact hj), mid_set A _ B _ j' v' hA (by rw [List.length_set]; exact hj')]
end Go.Disk
namespace Go.Proofs.YtbmnbdkbgpajeaaGreatDoor
open Go.RowKit Go.Own Go.Disk
structure Rt where
  p : Nat
  sb : Nat
  cap : Nat
  sp : List Value
def Rt.all (f : Rt) : List Nat := [f.p, f.sb]
structure RD (w : World) (f : Rt) (d : DS) : Prop where
  fit : d.s.length ≤ f.cap ∧ f.cap ≤ maxLen
  head : Blk w f.p [.slice (some ⟨f.sb, 0, none⟩) d.s.length f.cap, .bool d.off, .int .i64 d.left] 80
  secs : Blk w f.sb (rcells d.s ++ f.sp) 83
  ok : Ok d
  apart : f.p ≠ f.sb
theorem RD.chg {w w' : World} {f : Rt} {d : DS} {F : List Nat} (h : RD w f d) (hc : Chg F w w') (hF : ∀ x ∈ f.all, x ∉ F) : RD w' f d :=
  ⟨h.fit, h.head.chg hc (hF _ (by simp [Rt.all])), h.secs.chg hc (hF _ (by simp [Rt.all])), h.ok, h.apart⟩
theorem RD.below {w w' : World} {f : Rt} {d : DS} (h : RD w f d) (hc : Below w.heap.size w w') : RD w' f d := h.chg (.of_below (F := []) hc) (by simp)
theorem RD.lt {w : World} {f : Rt} {d : DS} (h : RD w f d) : ∀ x ∈ f.all, x < w.heap.size := by
  have h1 := h.head.lt
  have h2 := h.secs.lt
  simp only [Rt.all, List.mem_cons, List.not_mem_nil, or_false]
  rintro x (rfl | rfl) <;> assumption
theorem RD.withHead {w w' : World} {f : Rt} {d d' : DS} (h : RD w f d) (hs : d'.s = d.s) (hd : -1 ≤ d'.left ∧ d'.left ≤ 9223372036854775807)
    (hB : Blk w' f.p [.slice (some ⟨f.sb, 0, none⟩) d.s.length f.cap, .bool d'.off, .int .i64 d'.left] 80) (hc : Chg [f.p] w w') : RD w' f d' := by
  obtain ⟨h1, _, h3, h4, h5⟩ := h
  obtain ⟨s', o', l'⟩ := d'
  obtain ⟨s, o, l0⟩ := d
  dsimp only at *
  subst hs
  exact ⟨h1, hB, h3.chg hc (by simp; exact Ne.symm h5), ⟨h4.t, h4.p, h4.pos, h4.most, hd⟩, h5⟩
theorem rlen_any (f : Rt) (d : DS) (w : World) (h : RD w f d) : Calls Tryz.prog 52 #[.pointer (some ⟨f.p, 0, none⟩)] w fun e w' => e = .returned (.int .i64 d.s.length) ∧ w' = w := by
  have c0 : w.cell? ⟨f.p, 0, none⟩ = some (.slice (some ⟨f.sb, 0, none⟩) d.s.length f.cap) := h.head.cell rfl
  go_enter Tryz.func52, Tryz.ntmps52
  go_wp2
  go_ret
  exact ⟨rfl, rfl⟩
theorem ris_any (f : Rt) (d : DS) (i : Int) (w : World) (h : RD w f d) : Calls Tryz.prog 45 #[.pointer (some ⟨f.p, 0, none⟩), .int .i64 i] w fun e w' => e = .returned (.bool (inR d i)) ∧ w' = w := by
  have c0 : w.cell? ⟨f.p, 0, none⟩ = some (.slice (some ⟨f.sb, 0, none⟩) d.s.length f.cap) := h.head.cell rfl
  go_enter Tryz.func45, Tryz.ntmps45
  by_cases h0 : i < 0
  · have e : inR d i = false := by simp [inR, show ¬ 0 ≤ i by omega]
    go_wp2
    go_ret
    exact ⟨by first | rfl | simp [e], rfl⟩
  · by_cases h1 : (d.s.length : Int) ≤ i
    · have e : inR d i = false := by simp [inR, show ¬ i < (d.s.length : Int) by omega]
      have hi0 : 0 ≤ i := by omega
      go_wp2
      go_ret
      exact ⟨by first | rfl | (simp [e]; omega), rfl⟩
    · have e : inR d i = true := by simp [inR, show 0 ≤ i by omega, show i < (d.s.length : Int) by omega]
      have hi0 : 0 ≤ i := by omega
      have hi1 : i < (d.s.length : Int) := by omega
      go_wp2
      go_ret
      exact ⟨by first | rfl | simp [e], rfl⟩
theorem rstep_any (f : Rt) (d : DS) (w : World) (h : RD w f d) : Calls Tryz.prog 46 #[.pointer (some ⟨f.p, 0, none⟩)] w fun e w' => e = .returned (.int .i64 (astep d).1) ∧ RD w' f (astep d).2 ∧ Chg [f.p] w w' := by
  have hB := h.head
  have hleft := h.ok.left
  have c2 : w.cell? ⟨f.p, 2, none⟩ = some (.int .i64 d.left) := hB.cell rfl
  have hfr := hB.frozen
  have c1 : w.cell? ⟨f.p, 1, none⟩ = some (.bool d.off) := hB.cell rfl
  have hst := h.ok.step.left
  go_enter Tryz.func46, Tryz.ntmps46
  by_cases h0 : d.left = 0
  · have e : astep d = (25, { d with off := true }) := by unfold astep; rw [if_pos h0]
    have k := h.withHead (d' := { d with off := true }) (w' := w.setCell ⟨f.p, 1, none⟩ (.bool true)) rfl hleft (hB.set 1 _) ((Chg.refl _ _).set _ (by simp))
    have E := Lib.hid e; clear e
    go_wp2
    go_ret
    rw [E.out]
    exact ⟨rfl, k, (Chg.refl _ _).set _ (by simp)⟩
  · have hne : (d.left == 0) = false := by simpa using h0
    by_cases h1 : 0 < d.left
    · have e : astep d = (0, { d with left := d.left - 1 }) := by unfold astep; rw [if_neg h0, if_pos h1]
      rw [e] at hst
      have k := h.withHead (d' := { d with left := d.left - 1 }) (w' := w.setCell ⟨f.p, 2, none⟩ (.int .i64 (d.left - 1))) rfl hst (hB.set 2 _) ((Chg.refl _ _).set _ (by simp))
      have hw : IntKind.i64.wrap (d.left - 1) = d.left - 1 := IntWalk.i64_in _ (by omega)
      have E := Lib.hid e; clear e
      go_wp2
      go_ret
      rw [E.out]
      exact ⟨rfl, k, (Chg.refl _ _).set _ (by simp)⟩
    · have e : astep d = (0, d) := by unfold astep; rw [if_neg h0, if_neg h1]
      have E := Lib.hid e; clear e
      go_wp2
      go_ret
      rw [E.out]
      exact ⟨rfl, h, Chg.refl _ _⟩
theorem rtrip_any (f : Rt) (d : DS) (n : Int) (hn : -9223372036854775808 ≤ n ∧ n ≤ 9223372036854775807) (w : World) (h : RD w f d) : Calls Tryz.prog 31 #[.pointer (some ⟨f.p, 0, none⟩), .int .i64 n] w fun e w' => e = .returned (.tuple #[]) ∧ RD w' f (atrip d n) ∧ Chg [f.p] w w' := by
  have hB := h.head
  have hfr := hB.frozen
  have c2 : w.cell? ⟨f.p, 2, none⟩ = some (.int .i64 d.left) := hB.cell rfl
  have k := h.withHead (d' := atrip d n) (w' := w.setCell ⟨f.p, 2, none⟩ (.int .i64 (max (-1) n))) rfl (by simp only [atrip]; omega) (hB.set 2 _) ((Chg.refl _ _).set _ (by simp))
  go_enter Tryz.func31, Tryz.ntmps31
  go_wp2
  refine bodyPost_end (results_none rfl _ _ _) rfl ?_
  exact ⟨rfl, k, (Chg.refl _ _).set _ (by simp)⟩
end Go.Proofs.YtbmnbdkbgpajeaaGreatDoor
end
/- Read, Write, Wear of the reference. -/
section
namespace Go.Proofs.YtbmnbdkbgpajeaaGreatDoor
open Go.RowKit Go.Own Go.Disk Go.BigFrame
attribute [local go_sem] setCell_twice str_size
theorem RD.upd {w w' : World} {f : Rt} {d : DS} (h : RD w f d) {i : Int} (hi : inR d i = true) (g : Sec → Sec) (hg : ∀ x, x.t.length = 64 → (∀ q, x.p = some q → q.length = 64) → (g x).t.length = 64 ∧ ∀ q, (g x).p = some q → q.length = 64)
    (hb : Blk w' f.sb (rcells (d.s.modify i.toNat g) ++ f.sp) 83) (hc : Chg [f.sb] w w') : RD w' f (upd d i g) := by
  obtain ⟨h1, h2, h3, h4, h5⟩ := h
  refine ⟨by simpa [Disk.upd] using h1, ?_, hb, h4.upd _ _ hg, h5⟩
  have e : (Disk.upd d i g).s.length = d.s.length := by simp [Disk.upd]
  rw [e]
  exact h2.chg hc (by simp; exact h5)
theorem RD.cell {w : World} {f : Rt} {d : DS} (h : RD w f d) {n : Nat} (hn : n < d.s.length) (j : Nat) (hj : j < 4) {v : Value} (hv : (rsec (sec d n))[j]? = some v) : w.cell? ⟨f.sb, n * 4 + j, none⟩ = some v := by
  refine h.secs.cell ?_
  rw [rcells_at hn _ j hj]
  exact hv
theorem rread_any (f : Rt) (d : DS) (i : Int) (w : World) (h : RD w f d) : Calls Tryz.prog 53 #[.pointer (some ⟨f.p, 0, none⟩), .int .i64 i] w fun e w' => e = .returned (.tuple #[str (aread d i).1, .int .i64 (aread d i).2]) ∧ w' = w := by
  have c0 : w.cell? ⟨f.p, 0, none⟩ = some (.slice (some ⟨f.sb, 0, none⟩) d.s.length f.cap) := h.head.cell rfl
  have c1 : w.cell? ⟨f.p, 1, none⟩ = some (.bool d.off) := h.head.cell rfl
  go_enter Tryz.func53, Tryz.ntmps53
  by_cases hoff : d.off = true
  · have e : aread d i = ([], 25) := by simp [aread, acheck, hoff]
    rw [hoff] at c1
    go_wp2
    go_ret2
    rw [e]; exact ⟨rfl, rfl⟩
  · have hoff' : d.off = false := by simpa using hoff
    rw [hoff'] at c1
    by_cases hi : inR d i = true
    · obtain ⟨_, hil, hi0, _⟩ := sec_mem hi
      obtain ⟨n, hn⟩ : ∃ n : Nat, n = i.toNat := ⟨_, rfl⟩
      obtain rfl : i = (n : Int) := by omega
      have hil' : n < d.s.length := by omega
      clear hn hil
      have d0 : w.cell? ⟨f.sb, n * 4, none⟩ = some (str (sec d n).t) := h.cell hil' 0 (by decide) rfl
      have d1 := h.cell hil' 1 (by decide) (v := str ((sec d n).p.getD [])) rfl
      have d2 := h.cell hil' 2 (by decide) (v := .bool (sec d n).p.isSome) rfl
      cases hp : (sec d n).p with
      | none =>
        have e : aread d n = ((sec d n).t, 0) := by simp [aread, acheck, hoff', hi, hp]
        rw [hp] at d1 d2
        simp only [Option.isSome_none] at d2
        go_wp2_with (go_at_call 45; refine (ris_any f d n w h).mono ?_; rintro e w' ⟨rfl, rfl⟩; rw [hi])
        go_ret2
        rw [e]; exact ⟨rfl, rfl⟩
      | some q =>
        have e : aread d n = (q, 0) := by simp [aread, acheck, hoff', hi, hp]
        rw [hp] at d1 d2
        simp only [Option.isSome_some, Option.getD_some] at d1 d2
        go_wp2_with (go_at_call 45; refine (ris_any f d n w h).mono ?_; rintro e w' ⟨rfl, rfl⟩; rw [hi])
        go_ret2
        rw [e]; exact ⟨rfl, rfl⟩
    · have hi' : inR d i = false := by simpa using hi
      have e : aread d i = ([], 1) := by simp [aread, acheck, hoff', hi']
      go_wp2_with (go_at_call 45; refine (ris_any f d i w h).mono ?_; rintro e w' ⟨rfl, rfl⟩; rw [hi'])
      go_ret2
      rw [e]; exact ⟨rfl, rfl⟩
theorem rwear_any (f : Rt) (d : DS) (i : Int) (w : World) (h : RD w f d) : Calls Tryz.prog 35 #[.pointer (some ⟨f.p, 0, none⟩), .int .i64 i] w fun e w' => e = .returned (.int .i64 (awear d i).1) ∧ RD w' f (awear d i).2 ∧ Chg f.all w w' := by
  have c0 : w.cell? ⟨f.p, 0, none⟩ = some (.slice (some ⟨f.sb, 0, none⟩) d.s.length f.cap) := h.head.cell rfl
  have hfr := h.secs.frozen
  go_enter Tryz.func35, Tryz.ntmps35
  by_cases hi : inR d i = true
  · obtain ⟨_, hil, hi0, _⟩ := sec_mem hi
    obtain ⟨n, hn⟩ : ∃ n : Nat, n = i.toNat := ⟨_, rfl⟩
    obtain rfl : i = (n : Int) := by omega
    have hil' : n < d.s.length := by omega
    clear hn hil
    have d3 := h.cell hil' 3 (by decide) (v := .bool (sec d n).w) rfl
    have e : awear d n = (0, upd d n fun x => { x with w := true }) := by simp [awear, hi]
    have hset := h.secs.set (n * 4 + 3) (.bool true)
    rw [rcells_set hil' (fun x => { x with w := true }) f.sp 3 (by decide) (.bool true) rfl] at hset
    have hP := h.upd hi (fun x => { x with w := true }) (fun x h1 h2 => ⟨h1, h2⟩) hset ((Chg.refl _ _).set _ (by simp))
    have E := Lib.hid e; clear e
    go_wp2_with (go_at_call 45; refine (ris_any f d n w h).mono ?_; rintro e w' ⟨rfl, rfl⟩; rw [hi])
    go_ret
    rw [E.out]
    exact ⟨rfl, hP, (Chg.refl _ _).set _ (by simp [Rt.all])⟩
  · have hi' : inR d i = false := by simpa using hi
    have e : awear d i = (1, d) := by simp [awear, hi']
    have E := Lib.hid e; clear e
    go_wp2_with (go_at_call 45; refine (ris_any f d i w h).mono ?_; rintro e w' ⟨rfl, rfl⟩; rw [hi'])
    go_ret
    rw [E.out]
    exact ⟨rfl, h, Chg.refl _ _⟩
set_option maxHeartbeats 1000000 in
theorem rwrite_any (f : Rt) (d : DS) (i : Int) (b : List UInt8) (w : World) (h : RD w f d) : Calls Tryz.prog 11 #[.pointer (some ⟨f.p, 0, none⟩), .int .i64 i, str b] w fun e w' => e = .returned (.int .i64 (awrite d i b).1) ∧ RD w' f (awrite d i b).2 ∧ Chg f.all w w' := by
  have c1 : w.cell? ⟨f.p, 1, none⟩ = some (.bool d.off) := h.head.cell rfl
  go_enter Tryz.func11, Tryz.ntmps11
  by_cases hoff : d.off = true
  · have e : awrite d i b = (25, d) := by simp [awrite, acheck, hoff]
    have E := Lib.hid e; clear e
    rw [hoff] at c1
    go_wp2
    go_ret
    rw [E.out]; exact ⟨rfl, h, Chg.refl _ _⟩
  · have hoff' : d.off = false := by simpa using hoff
    rw [hoff'] at c1
    by_cases hi : inR d i = true
    · by_cases hb : b.length = 64
      · have hb' : ((b.length : Int) != 64) = false := by simp [hb]
        by_cases hs : (astep d).1 = 0
        · have e : awrite d i b = (0, upd (astep d).2 i fun x => { x with p := some b }) := by simp [awrite, acheck, hoff', hi, hb, hs]
          obtain ⟨d1, hd1⟩ : ∃ d1, d1 = (astep d).2 := ⟨_, rfl⟩
          have hi1 : inR d1 i = true := by rw [hd1]; unfold inR at hi ⊢; rw [astep_s]; exact hi
          rw [← hd1] at e
          have E := Lib.hid e; clear e
          have HB := Lib.hid hb; clear hb
          obtain ⟨_, hil, hi0, _⟩ := sec_mem hi1
          obtain ⟨n, hn⟩ : ∃ n : Nat, n = i.toNat := ⟨_, rfl⟩
          obtain rfl : i = (n : Int) := by omega
          have hil' : n < d1.s.length := by omega
          clear hn hil
          go_wp2_with (go_at_call 45; refine (ris_any f d n w h).mono ?_; rintro e w' ⟨rfl, rfl⟩; rw [hi])
          go_wp2_with fail
          refine (rstep_any f d _ h).mono ?_
          rintro e w1 ⟨rfl, h1, hc1⟩
          rw [hs]
          rw [← hd1] at h1
          have HD := Lib.hid hd1; clear hd1
          have k0 : w1.cell? ⟨f.p, 0, none⟩ = some (.slice (some ⟨f.sb, 0, none⟩) d1.s.length f.cap) := h1.head.cell rfl
          have t1 := h1.cell hil' 1 (by decide) (v := str ((sec d1 n).p.getD [])) rfl
          have t2 := h1.cell hil' 2 (by decide) (v := .bool (sec d1 n).p.isSome) rfl
          have hfr := h1.secs.frozen
          have hne : f.p ≠ f.sb := h1.apart
          have hset := (h1.secs.set (n * 4 + 1) (str b)).set (n * 4 + 2) (.bool true)
          rw [rcells_set2 hil' (fun x => { x with p := some b }) f.sp 1 2 (by decide) (by decide) (str b) (.bool true) rfl] at hset
          have hc2 : Chg [f.sb] w1 ((w1.setCell ⟨f.sb, n * 4 + 1, none⟩ (str b)).setCell ⟨f.sb, n * 4 + 2, none⟩ (.bool true)) := ((Chg.refl _ _).set _ (by simp)).set _ (by simp)
          have hP := h1.upd hi1 (fun x => { x with p := some b }) (fun x e1 e2 => ⟨e1, fun q hq => by simp at hq; rw [← hq]; exact HB.out⟩) hset hc2
          have hcc : Chg f.all w' ((w1.setCell ⟨f.sb, n * 4 + 1, none⟩ (str b)).setCell ⟨f.sb, n * 4 + 2, none⟩ (.bool true)) := (hc1.mono (by simp [Rt.all])).trans (hc2.mono (by simp [Rt.all]))
          clear hset hc2
          go_wp2
          go_ret
          rw [E.out]
          exact ⟨rfl, hP, hcc⟩
        · have e : awrite d i b = astep d := by simp [awrite, acheck, hoff', hi, hb, hs]
          have hs' : ((astep d).1 == 0) = false := by simpa using hs
          have hs2 : ((astep d).1 != 0) = true := by simpa using hs
          have E := Lib.hid e; clear e
          go_wp2_with (go_at_call 45; refine (ris_any f d i w h).mono ?_; rintro e w' ⟨rfl, rfl⟩; rw [hi])
          go_wp2_with fail
          refine (rstep_any f d _ h).mono ?_
          rintro e w1 ⟨rfl, h1, hc1⟩
          go_wp2
          go_ret
          rw [E.out]
          exact ⟨rfl, h1, hc1.mono (by simp [Rt.all])⟩
      · have hb' : ((b.length : Int) != 64) = true := by simp; omega
        have e : awrite d i b = (1, d) := by simp [awrite, acheck, hoff', hi, hb]
        have E := Lib.hid e; clear e
        go_wp2_with (go_at_call 45; refine (ris_any f d i w h).mono ?_; rintro e w' ⟨rfl, rfl⟩; rw [hi])
        go_ret
        rw [E.out]
        exact ⟨rfl, h, Chg.refl _ _⟩
    · have hi' : inR d i = false := by simpa using hi
      have e : awrite d i b = (1, d) := by simp [awrite, acheck, hoff', hi']
      have E := Lib.hid e; clear e
      go_wp2_with (go_at_call 45; refine (ris_any f d i w h).mono ?_; rintro e w' ⟨rfl, rfl⟩; rw [hi'])
      go_ret
      rw [E.out]
      exact ⟨rfl, h, Chg.refl _ _⟩
end Go.Proofs.YtbmnbdkbgpajeaaGreatDoor
end
/- settle, Rot of the reference. -/
section
namespace Go.Own
theorem bytes_extractR (q : List UInt8) (a b : Nat) : (⟨q.toArray⟩ : ByteArray).extract a b = ⟨((q.take b).drop a).toArray⟩ := by
  apply ByteArray.ext
  simp [ByteArray.data_extract, List.extract_toArray, List.extract_eq_take_drop, List.drop_take]
end Go.Own
namespace Go.Proofs.YtbmnbdkbgpajeaaGreatDoor
open Go.RowKit Go.Own Go.Disk Go.BigFrame
attribute [local go_sem] setCell_twice str_size str_append bytes_extractR
theorem aggRSec : (match Tryz.prog.underlying 83 with | some (.struct _) | some (.array _ _) => true | _ => false) = true := by kernel_rfl
theorem infoRSec : (Tryz.prog.info? 83).map (·.size) = some 4 := by kernel_rfl
set_option maxHeartbeats 1600000 in
set_option maxRecDepth 100000 in
theorem rsettle_any (f : Rt) (d : DS) (n : Nat) (p : Int) (w : World) (h : RD w f d) (hi : inR d n = true) (hp : (sec d n).p.isSome = true) : Calls Tryz.prog 67 #[.pointer (some ⟨f.p, 0, none⟩), .int .i64 n, .int .i64 p] w fun e w' => e = .returned (.tuple #[]) ∧ RD w' f (upd d n (settle1 p)) ∧ Chg f.all w w' := by
  have c0 : w.cell? ⟨f.p, 0, none⟩ = some (.slice (some ⟨f.sb, 0, none⟩) d.s.length f.cap) := h.head.cell rfl
  obtain ⟨hm, hil, hi0, _⟩ := sec_mem hi
  have hil' : n < d.s.length := by omega
  clear hil hi0
  obtain ⟨q, hq⟩ := Option.isSome_iff_exists.1 hp
  have hql := h.ok.p _ hm q hq
  have htl := h.ok.t _ hm
  obtain ⟨t0, ht0⟩ : ∃ t0, t0 = (sec d n).t := ⟨_, rfl⟩
  obtain ⟨wn, hwn⟩ : ∃ wn, wn = (sec d n).w := ⟨_, rfl⟩
  have hrs : rsec (sec d n) = [str t0, str q, .bool true, .bool wn] := by rw [ht0, hwn]; simp [rsec, hq]
  have hC : Cells w f.sb (n * 4) [str t0, str q, .bool true, .bool wn] := by
    refine h.secs.cells _ _ ?_
    rw [← hrs]
    obtain ⟨A, B, hA, h1, _⟩ := rcells_split hil' f.sp
    rw [h1, ← hA, List.drop_left]
    exact List.take_left
  have hltx := h.secs.lt
  obtain ⟨c, hc⟩ : ∃ c : Nat, clamp p = c := ⟨_, rfl⟩
  have hc64 : c ≤ 64 := by rw [← hc]; unfold clamp; omega
  have hck : max 0 (min p 64) = (c : Int) := by rw [← hc]; unfold clamp; omega
  have ht0l : t0.length = 64 := by rw [ht0]; exact htl
  have HT := Lib.hid ht0; clear ht0
  have HW := Lib.hid hwn; clear hwn
  clear htl
  have hcq : (c : Int) ≤ 64 := by omega
  go_enter Tryz.func67, Tryz.ntmps67
  cases wn with
  | true =>
    have E6 : rsec (settle1 p (d.s.getD n default)) = [str t0, str [], .bool false, .bool true] := by
      have hw : (d.s.getD n default).w = true := HW.out.symm
      have ht : (d.s.getD n default).t = t0 := HT.out.symm
      generalize d.s.getD n default = x at hw ht ⊢
      simp [rsec, settle1, hw, ht]
    go_wp2_with (refine wpList_load_agg [str t0, str q, .bool true, .bool true] hC rfl rfl rfl aggRSec infoRSec ?_)
    have HX : Blk (w.alloc (.cells #[str t0, str [], .bool false, .bool true] 83)) w.heap.size [str t0, str [], .bool false, .bool true] 83 := Blk.new w _ _
    have HB : Below w.heap.size w (w.alloc (.cells #[str t0, str [], .bool false, .bool true] 83)) := alloc_below w _
    obtain ⟨w5, hw5⟩ : ∃ w5 : World, w5 = w.alloc (.cells #[str t0, str [], .bool false, .bool true] 83) := ⟨_, rfl⟩
    rw [← hw5]
    have hX : Blk w5 w.heap.size [str (t0), str [], .bool false, .bool true] 83 := by
      rw [hw5]; exact HX
    have hb5 : Below w.heap.size w w5 := by rw [hw5]; exact HB
    clear hw5 HX HB
    have h5 := h.below hb5
    have k0 : w5.cell? ⟨f.p, 0, none⟩ = some (.slice (some ⟨f.sb, 0, none⟩) d.s.length f.cap) := h5.head.cell rfl
    have hlX : ((rcells d.s ++ f.sp)).length = (rcells d.s ++ f.sp).length := rfl
    have hil5 : n * 4 + 4 ≤ (rcells d.s ++ f.sp).length := by rw [List.length_append, rcells_length]; omega
    haveI : Nonempty (SqC.Come fun W => W = w5.drew) := ⟨⟨_, rfl⟩⟩
    refine SqC.wp_region_sqc 8 [7] (fun W => W = w5.drew) (by kernel_rfl) (by kernel_rfl) (by kernel_rfl) rfl ?_
    refine SqC.quiet rfl rfl ?_; go_big_quiet_step (fail); refine wpQuiet_nil ?_
    refine SqC.quiet rfl rfl ?_; go_big_quiet_step (fail); refine wpQuiet_nil ?_
    refine SqC.quiet rfl rfl ?_; go_big_quiet_step (fail); refine wpQuiet_nil ?_
    refine SqC.value (.slice (some ⟨f.sb, 0, none⟩) d.s.length f.cap) rfl rfl (by rintro _ rfl; go_simp) ?_
    simp only [Act.put, List.setIfInBounds_toArray, List.set_cons_zero, List.set_cons_succ]
    refine SqC.quiet rfl rfl ?_; go_big_quiet_step (fail); refine wpQuiet_nil ?_
    refine SqC.value (.agg #[str (t0), str [], .bool false, .bool true]) rfl rfl ?_ ?_
    · rintro _ rfl
      have hl := run_load_agg (P := Tryz.prog) (ty := 83) hX.drew.cells0 aggRSec infoRSec
      exact load_agg_exec rfl rfl hl
    simp only [Act.put, List.setIfInBounds_toArray, List.set_cons_zero, List.set_cons_succ]
    refine SqC.quiet rfl rfl ?_; go_big_quiet_step (fail); refine wpQuiet_nil ?_
    refine SqC.effectW rfl rfl ?_
    refine wpList_store_blk (vs := [str (t0), str [], .bool false, .bool true]) h5.secs.drew rfl rfl rfl rfl rfl infoRSec rfl hil5 (by intro u hu; simp at hu; rcases hu with rfl | rfl | rfl | rfl <;> rfl) ?_
    intro w6 hb6 ho6
    refine wpList_nil (SqC.here rfl (fun h => absurd rfl h) (SqC.nil ?_))
    have e6 : rcells (d.s.modify n (settle1 p)) ++ f.sp = (rcells d.s ++ f.sp).take (n * 4) ++ [str (t0), str [], .bool false, .bool true] ++ (rcells d.s ++ f.sp).drop (n * 4 + 4) := by
      rw [rcells_modify hil', E6]
    rw [← e6] at hb6
    have hP := h5.upd (w' := w6) hi (settle1 p) (fun x h1 h2 => settle1_len p x h1 h2) hb6 ((Chg.of_oth ho6 (by simp)).pre_drew)
    have hcc : Chg f.all w w6 := (Chg.of_below hb5).trans ((Chg.of_oth ho6 (by simp [Rt.all])).pre_drew)
    go_wp2
    refine bodyPost_end (results_none rfl _ _ _) rfl ?_
    exact ⟨rfl, hP, hcc⟩
  | false =>
    have e64 : List.take 64 t0 = t0 := List.take_of_length_le (by omega)
    have E6 : rsec (settle1 p (d.s.getD n default)) = [str (q.take c ++ t0.drop c), str [], .bool false, .bool false] := by
      have hw : (d.s.getD n default).w = false := HW.out.symm
      have ht : (d.s.getD n default).t = t0 := HT.out.symm
      have hq' : (d.s.getD n default).p = some q := hq
      generalize d.s.getD n default = x at hw ht hq' ⊢
      simp [rsec, settle1, hw, ht, hq', hc]
    go_wp2_with (refine wpList_load_agg [str t0, str q, .bool true, .bool false] hC rfl rfl rfl aggRSec infoRSec ?_)
    refine wp_region_tail 10 (by kernel_rfl) (by kernel_rfl) ?_
    simp only [List.take_succ_cons, List.take_zero, List.drop_succ_cons, List.drop_zero]
    repeat (go_big_quiet_step (fail))
    refine wpQuiet_nil ?_
    intro nq
    go_wp2
    have HX := ((((Blk.new w #[str t0, str q, .bool true, .bool false] 83).drewN nq).set 0 (str (q.take c ++ t0.drop c))).set 1 (str [])).set 2 (.bool false)
    have HB := below_set (below_set (below_set (below_drewN (alloc_below w (.cells #[str t0, str q, .bool true, .bool false] 83)) nq) (Nat.le_refl _) (Nat.le_refl _) 0 (str (q.take c ++ t0.drop c))) (Nat.le_refl _) (Nat.le_refl _) 1 (str [])) (Nat.le_refl _) (Nat.le_refl _) 2 (.bool false)
    obtain ⟨w5, hw5⟩ : ∃ w5 : World, w5 = ((((w.alloc (.cells #[str t0, str q, .bool true, .bool false] 83)).drewN nq).setCell ⟨w.heap.size, 0, none⟩ (str (q.take c ++ t0.drop c))).setCell ⟨w.heap.size, 1, none⟩ (str [])).setCell ⟨w.heap.size, 2, none⟩ (.bool false) := ⟨_, rfl⟩
    rw [← hw5]
    have hX : Blk w5 w.heap.size [str (q.take c ++ t0.drop c), str [], .bool false, .bool false] 83 := by
      rw [hw5]; exact HX
    have hb5 : Below w.heap.size w w5 := by rw [hw5]; exact HB
    clear hw5 HX HB
    have h5 := h.below hb5
    have k0 : w5.cell? ⟨f.p, 0, none⟩ = some (.slice (some ⟨f.sb, 0, none⟩) d.s.length f.cap) := h5.head.cell rfl
    have hlX : ((rcells d.s ++ f.sp)).length = (rcells d.s ++ f.sp).length := rfl
    have hil5 : n * 4 + 4 ≤ (rcells d.s ++ f.sp).length := by rw [List.length_append, rcells_length]; omega
    haveI : Nonempty (SqC.Come fun W => W = w5.drew) := ⟨⟨_, rfl⟩⟩
    refine SqC.wp_region_sqc 8 [7] (fun W => W = w5.drew) (by kernel_rfl) (by kernel_rfl) (by kernel_rfl) rfl ?_
    refine SqC.quiet rfl rfl ?_; go_big_quiet_step (fail); refine wpQuiet_nil ?_
    refine SqC.quiet rfl rfl ?_; go_big_quiet_step (fail); refine wpQuiet_nil ?_
    refine SqC.quiet rfl rfl ?_; go_big_quiet_step (fail); refine wpQuiet_nil ?_
    refine SqC.value (.slice (some ⟨f.sb, 0, none⟩) d.s.length f.cap) rfl rfl (by rintro _ rfl; go_simp) ?_
    simp only [Act.put, List.setIfInBounds_toArray, List.set_cons_zero, List.set_cons_succ]
    refine SqC.quiet rfl rfl ?_; go_big_quiet_step (fail); refine wpQuiet_nil ?_
    refine SqC.value (.agg #[str (q.take c ++ t0.drop c), str [], .bool false, .bool false]) rfl rfl ?_ ?_
    · rintro _ rfl
      have hl := run_load_agg (P := Tryz.prog) (ty := 83) hX.drew.cells0 aggRSec infoRSec
      exact load_agg_exec rfl rfl hl
    simp only [Act.put, List.setIfInBounds_toArray, List.set_cons_zero, List.set_cons_succ]
    refine SqC.quiet rfl rfl ?_; go_big_quiet_step (fail); refine wpQuiet_nil ?_
    refine SqC.effectW rfl rfl ?_
    refine wpList_store_blk (vs := [str (q.take c ++ t0.drop c), str [], .bool false, .bool false]) h5.secs.drew rfl rfl rfl rfl rfl infoRSec rfl hil5 (by intro u hu; simp at hu; rcases hu with rfl | rfl | rfl | rfl <;> rfl) ?_
    intro w6 hb6 ho6
    refine wpList_nil (SqC.here rfl (fun h => absurd rfl h) (SqC.nil ?_))
    have e6 : rcells (d.s.modify n (settle1 p)) ++ f.sp = (rcells d.s ++ f.sp).take (n * 4) ++ [str (q.take c ++ t0.drop c), str [], .bool false, .bool false] ++ (rcells d.s ++ f.sp).drop (n * 4 + 4) := by
      rw [rcells_modify hil', E6]
    rw [← e6] at hb6
    have hP := h5.upd (w' := w6) hi (settle1 p) (fun x h1 h2 => settle1_len p x h1 h2) hb6 ((Chg.of_oth ho6 (by simp)).pre_drew)
    have hcc : Chg f.all w w6 := (Chg.of_below hb5).trans ((Chg.of_oth ho6 (by simp [Rt.all])).pre_drew)
    go_wp2
    refine bodyPost_end (results_none rfl _ _ _) rfl ?_
    exact ⟨rfl, hP, hcc⟩
end Go.Proofs.YtbmnbdkbgpajeaaGreatDoor
end
/- Rot of the reference. -/
section
namespace Go.Proofs.YtbmnbdkbgpajeaaGreatDoor
open Go.RowKit Go.Own Go.Disk Go.BigFrame
attribute [local go_sem] setCell_twice str_size str_append bytes_extractR
set_option maxHeartbeats 1600000 in
set_option maxRecDepth 100000 in
theorem rrot_any (f : Rt) (d : DS) (i b : Int) (w : World) (h : RD w f d) : Calls Tryz.prog 33 #[.pointer (some ⟨f.p, 0, none⟩), .int .i64 i, .int .i64 b] w fun e w' => e = .returned (.int .i64 (arot d i b).1) ∧ RD w' f (arot d i b).2 ∧ Chg f.all w w' := by
  have c0 : w.cell? ⟨f.p, 0, none⟩ = some (.slice (some ⟨f.sb, 0, none⟩) d.s.length f.cap) := h.head.cell rfl
  go_enter Tryz.func33, Tryz.ntmps33
  by_cases hi : inR d i = true
  · by_cases h2 : b < 0
    · have e : arot d i b = (1, d) := by simp [arot, show ¬ 0 ≤ b by omega]
      have E := Lib.hid e; clear e
      go_wp2_with (go_at_call 45; refine (ris_any f d i w h).mono ?_; rintro e w' ⟨rfl, rfl⟩; rw [hi])
      go_ret
      rw [E.out]; exact ⟨rfl, h, Chg.refl _ _⟩
    · have h20 : 0 ≤ b := by omega
      by_cases h3 : 512 ≤ b
      · have e : arot d i b = (1, d) := by simp [arot, show ¬ b ≤ 511 by omega]
        have h31 : 511 < b := by omega
        have E := Lib.hid e; clear e
        clear h2
        go_wp2_with (go_at_call 45; refine (ris_any f d i w h).mono ?_; rintro e w' ⟨rfl, rfl⟩; rw [hi])
        go_ret
        rw [E.out]; exact ⟨rfl, h, Chg.refl _ _⟩
      · have e : arot d i b = (0, upd d i fun x => { x with t := rotT b.toNat x.t }) := by simp [arot, hi, show 0 ≤ b by omega, show b ≤ 511 by omega]
        obtain ⟨hm, hil, hi0, _⟩ := sec_mem hi
        have htl := h.ok.t _ hm
        obtain ⟨n, hn⟩ : ∃ n : Nat, n = i.toNat := ⟨_, rfl⟩
        obtain rfl : i = (n : Int) := by omega
        clear hn
        obtain ⟨k, hk⟩ : ∃ k : Nat, k = b.toNat := ⟨_, rfl⟩
        obtain rfl : b = (k : Int) := by omega
        clear hk
        have hil' : n < d.s.length := by omega
        clear hil hi0 h2
        have hk8 : k / 8 < 64 := by omega
        have hk1 : (k : Int) ≤ 511 := by omega
        clear h3
        obtain ⟨t0, ht0⟩ : ∃ t0, t0 = (sec d n).t := ⟨_, rfl⟩
        rw [← ht0] at htl
        have d0 : w.cell? ⟨f.sb, n * 4, none⟩ = some (str t0) := h.cell hil' 0 (by decide) (by rw [ht0]; rfl)
        have HT := Lib.hid ht0; clear ht0
        obtain ⟨x, hx⟩ : ∃ x : UInt8, x = t0.getD (k / 8) 0 := ⟨_, rfl⟩
        have hxv := rot_bits x k
        obtain ⟨y, hy⟩ : ∃ y, y = x ^^^ (1 <<< UInt8.ofNat (k % 8)) := ⟨_, rfl⟩
        rw [← hy] at hxv
        have HX := Lib.hid hx; clear hx
        have HY := Lib.hid hy; clear hy
        rw [Int.toNat_natCast] at e
        have E := Lib.hid e; clear e
        go_wp2_with (first | (go_at_call 45; refine (ris_any f d n w h).mono ?_; rintro e w' ⟨rfl, rfl⟩; rw [hi]) | refine wpList_str_bytes (bs := t0) rfl rfl rfl hTs hTb hT8 (by omega) ?_)
        intro cap sp w1 hcap1 hcap2 hB1 hb1
        have hlt0 : (t0.map byv).length = 64 := by rw [List.length_map, htl]
        have cx : w1.cell? ⟨w'.heap.size, k / 8, none⟩ = some (byv x) := by
          refine hB1.cell ?_
          rw [List.getElem?_append_left (by omega), List.getElem?_map, HX.out, List.getElem?_eq_getElem (by omega)]
          simp [show k / 8 < t0.length by omega]
        have hfr : w1.frozen? ⟨w'.heap.size, k / 8, none⟩ = false := hB1.frozen (by rw [List.length_append]; omega)
        go_wp2
        refine wp_region_tail 13 (by kernel_rfl) (by kernel_rfl) ?_
        simp only [List.take_succ_cons, List.take_zero, List.drop_succ_cons, List.drop_zero]
        repeat (go_big_quiet_step (fail))
        refine wpQuiet_nil ?_
        intro nq
        have hB2 := (hB1.drewN nq).set (k / 8) (byv y)
        have hset : (t0.map byv ++ sp).set (k / 8) (byv y) = (rotT k t0).map byv ++ sp := by
          have e1 : t0[k / 8]? = some x := by rw [HX.out]; simp [show k / 8 < t0.length by omega]
          have e2 : rotT k t0 = t0.set (k / 8) y := by
            apply List.ext_getElem?
            intro j
            simp only [rotT, List.getElem?_modify, List.getElem?_set]
            by_cases e : k / 8 = j
            · subst e
              rw [e1, if_pos rfl, if_pos (by omega), HY.out]
              simp
            · simp [e]
          rw [List.set_append_left _ _ (by omega), e2, List.map_set]
        rw [hset] at hB2
        have hb2 : Below w'.heap.size w' ((w1.drewN nq).setCell ⟨w'.heap.size, k / 8, none⟩ (byv y)) := below_set (below_drewN hb1 nq) (Nat.le_refl _) (Nat.le_refl _) _ _
        go_wp2
        obtain ⟨w2, hw2⟩ : ∃ w2 : World, w2 = (w1.drewN nq).setCell ⟨w'.heap.size, k / 8, none⟩ (byv y) := ⟨_, rfl⟩
        rw [← hw2] at hB2 hb2
        rw [← hw2]
        clear hw2 hB1 hb1 cx hfr hset
        have h2 := h.below hb2
        have k0 : w2.cell? ⟨f.p, 0, none⟩ = some (.slice (some ⟨f.sb, 0, none⟩) d.s.length f.cap) := h2.head.cell rfl
        have hrl := rotT_len k t0
        have hcv := fun nq => convB (w2.drewN nq) (.slice (some ⟨w'.heap.size, 0, none⟩) 64 cap) (rotT k t0) (by
          rw [hrl, htl]
          refine ⟨by simp [hrl, htl], .inr ⟨_, 0, cap, rfl, by omega, hcap2, ?_, (hB2.drewN nq).lt⟩⟩
          exact (hB2.drewN nq).cells _ _ (by rw [List.drop_zero]; exact List.take_left))
        have k1 : w2.cell? ⟨f.sb, n * 4, none⟩ = some (str t0) := h2.cell hil' 0 (by decide) (by rw [HT.out]; rfl)
        have hfr2 := h2.secs.frozen
        refine wp_region_tail 9 (by kernel_rfl) (by kernel_rfl) ?_
        simp only [List.take_succ_cons, List.take_zero, List.drop_succ_cons, List.drop_zero]
        repeat (go_big_quiet_step (fail))
        refine wpQuiet_nil ?_
        intro nq3
        have hB3 := (h2.secs.drewN nq3).set (n * 4 + 0) (str (rotT k t0))
        rw [rcells_set hil' (fun x => { x with t := rotT k x.t }) f.sp 0 (by decide) (str (rotT k t0)) (by
          have ht : (d.s.getD n default).t = t0 := HT.out.symm
          generalize d.s.getD n default = z at ht ⊢
          simp [rsec, ht])] at hB3
        have hc3 : Chg [f.sb] (w2.drewN nq3) ((w2.drewN nq3).setCell ⟨f.sb, n * 4 + 0, none⟩ (str (rotT k t0))) := (Chg.refl _ _).set _ (by simp)
        have hP := (h2.chg ((Chg.refl [] w2).drewN nq3) (by simp)).upd hi (fun x => { x with t := rotT k x.t }) (fun x e1 e2 => ⟨by rw [← e1]; exact rotT_len _ _, e2⟩) hB3 hc3
        have hcc : Chg f.all w' ((w2.drewN nq3).setCell ⟨f.sb, n * 4 + 0, none⟩ (str (rotT k t0))) := (Chg.of_below (below_drewN hb2 nq3)).trans (hc3.mono (by simp [Rt.all]))
        rw [Nat.add_zero] at hP hcc
        clear hc3 hB3
        go_wp2
        go_ret
        rw [E.out]
        exact ⟨rfl, hP, hcc⟩
  · have hi' : inR d i = false := by simpa using hi
    have e : arot d i b = (1, d) := by simp [arot, hi']
    have E := Lib.hid e; clear e
    go_wp2_with (go_at_call 45; refine (ris_any f d i w h).mono ?_; rintro e w' ⟨rfl, rfl⟩; rw [hi'])
    go_ret
    rw [E.out]; exact ⟨rfl, h, Chg.refl _ _⟩
end Go.Proofs.YtbmnbdkbgpajeaaGreatDoor
end
