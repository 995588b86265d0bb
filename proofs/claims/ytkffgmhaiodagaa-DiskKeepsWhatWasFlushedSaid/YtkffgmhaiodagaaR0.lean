/- The reference's disk in memory; its small functions. -/
import Derived.Test.YtkffgmhaiodagaaD18
import Derived.Test.YtkffgmhaiodagaaSqC
namespace Go.Disk
open Go.RowKit Go.Own
/-- A sector of the reference. -/
def rsec (x : Sec) : List Value := [str x.t, str (x.p.getD []), .bool x.p.isSome, .bool x.w]
def rcells (s : List Sec) : List Value := s.flatMap rsec
theorem rcells_length (s : List Sec) : (rcells s).length = s.length * 4 := by
  induction s with
  | nil => rfl
  | cons x s ih =>
    show (rsec x ++ rcells s).length = (x :: s).length * 4
    rw [List.length_append, ih, List.length_cons]; simp [rsec]; omega
theorem rcells_at {s : List Sec} {i : Nat} (hi : i < s.length) (sp : List Value) (j : Nat) (hj : j < 4) : (rcells s ++ sp)[i * 4 + j]? = (rsec (s.getD i default))[j]? := by
  induction s generalizing i with
  | nil => simp at hi
  | cons x s ih =>
    have e : rcells (x :: s) ++ sp = rsec x ++ (rcells s ++ sp) := by simp [rcells]
    have h4 : (rsec x).length = 4 := rfl
    rw [e]
    cases i with
    | zero => rw [List.getElem?_append_left (by omega)]; simp
    | succ i => rw [List.getElem?_append_right (by omega), show (i + 1) * 4 + j - (rsec x).length = i * 4 + j by omega, ih (by simpa using hi)]; rfl
theorem rcells_modify {s : List Sec} {i : Nat} (hi : i < s.length) (f : Sec → Sec) (sp : List Value) : rcells (s.modify i f) ++ sp = (rcells s ++ sp).take (i * 4) ++ rsec (f (s.getD i default)) ++ (rcells s ++ sp).drop (i * 4 + 4) := by
  induction s generalizing i with
  | nil => simp at hi
  | cons x s ih =>
    have e : ∀ y s, rcells (y :: s) ++ sp = rsec y ++ (rcells s ++ sp) := by simp [rcells]
    have h4 : ∀ y, (rsec y).length = 4 := fun _ => rfl
    cases i with
    | zero => simp [e, List.drop_append, h4]
    | succ i =>
      have h2 : (i + 1) * 4 + 4 = (rsec x).length + (i * 4 + 4) := by rw [h4]; omega
      have h1 : (i + 1) * 4 = (rsec x).length + i * 4 := by rw [h4]; omega
      have e2 : rcells ((x :: s).modify (i + 1) f) ++ sp = rsec x ++ (rcells (s.modify i f) ++ sp) := e _ _
      rw [e2, ih (by simpa using hi), e, h2, List.drop_length_add_append, h1, List.take_length_add_append]
      simp
/-- One field of a sector is set. -/
theorem rcells_set {s : List Sec} {i : Nat} (hi : i < s.length) (f : Sec → Sec) (sp : List Value) (j : Nat) (hj : j < 4) (v : Value) (hv : rsec (f (s.getD i default)) = (rsec (s.getD i default)).set j v) : (rcells s ++ sp).set (i * 4 + j) v = rcells (s.modify i f) ++ sp := by
  have hl := rcells_length s
  rw [rcells_modify hi, hv]
  have h4 : ((rcells s ++ sp).drop (i * 4)).take 4 = rsec (s.getD i default) := by
    apply List.ext_getElem?
    intro k
    by_cases hk : k < 4
    · rw [List.getElem?_take_of_lt hk, List.getElem?_drop, rcells_at hi sp k hk]
    · rw [List.getElem?_eq_none (by rw [List.length_take]; omega), List.getElem?_eq_none (by simp [rsec]; omega)]
  have h5 : (rcells s ++ sp).drop (i * 4) = rsec (s.getD i default) ++ (rcells s ++ sp).drop (i * 4 + 4) := by
    rw [← h4, ← List.drop_drop, List.take_append_drop]
  have h6 : ((rcells s ++ sp).take (i * 4)).length = i * 4 := by rw [List.length_take, List.length_append]; omega
  conv => lhs; rw [← List.take_append_drop (i * 4) (rcells s ++ sp), h5]
  rw [List.set_append_right _ _ (by omega), h6, Nat.add_sub_cancel_left, List.set_append_left _ _ (by simp [rsec]; omega), List.append_assoc]
theorem mid_set {α : Type} (A r B : List α) (a j : Nat) (v : α) (ha : A.length = a) (hj : j < r.length) : (A ++ (r ++ B)).set (a + j) v = A ++ (r.set j v ++ B) := by
  rw [List.set_append_right _ _ (by omega), ha, Nat.add_sub_cancel_left, List.set_append_left _ _ hj]
theorem rcells_split {s : List Sec} {i : Nat} (hi : i < s.length) (sp : List Value) : ∃ A B, A.length = i * 4 ∧ rcells s ++ sp = A ++ (rsec (s.getD i default) ++ B) ∧ ∀ f, rcells (s.modify i f) ++ sp = A ++ (rsec (f (s.getD i default)) ++ B) := by
  have hl := rcells_length s
  refine ⟨(rcells s ++ sp).take (i * 4), (rcells s ++ sp).drop (i * 4 + 4), by rw [List.length_take, List.length_append]; omega, ?_, fun f => by rw [rcells_modify hi, List.append_assoc]⟩
  have := rcells_modify hi id sp
  rw [List.append_assoc] at this
  have e : s.modify i id = s := by
    apply List.ext_getElem?
    intro j
    rw [List.getElem?_modify]
    cases s[j]? with
    | none => rfl
    | some x => by_cases h : i = j <;> simp [h]
  rw [e] at this
  exact this
/-- Two fields of a sector are set. -/
theorem rcells_set2 {s : List Sec} {i : Nat} (hi : i < s.length) (f : Sec → Sec) (sp : List Value) (j j' : Nat) (hj : j < 4) (hj' : j' < 4) (v v' : Value) (hv : rsec (f (s.getD i default)) = ((rsec (s.getD i default)).set j v).set j' v') :
    ((rcells s ++ sp).set (i * 4 + j) v).set (i * 4 + j') v' = rcells (s.modify i f) ++ sp := by
  obtain ⟨A, B, hA, h1, h2⟩ := rcells_split hi sp
  rw [h1, h2, hv, mid_set A _ B _ j v hA (by exact hj), mid_set A _ B _ j' v' hA (by rw [List.length_set]; exact hj')]
end Go.Disk
namespace Go.Proofs.Ytkffgmhaiodagaa
open Go.RowKit Go.Own Go.Disk
structure Rt where
  p : Nat
  sb : Nat
  cap : Nat
  sp : List Value
def Rt.all (f : Rt) : List Nat := [f.p, f.sb]
structure RD (w : World) (f : Rt) (d : DS) : Prop where
  fit : d.s.length ≤ f.cap ∧ f.cap ≤ maxLen
  head : Blk w f.p [.slice (some ⟨f.sb, 0, none⟩) d.s.length f.cap, .bool d.off, .int .i64 d.left] 57
  secs : Blk w f.sb (rcells d.s ++ f.sp) 54
  ok : Ok d
  apart : f.p ≠ f.sb
theorem RD.chg {w w' : World} {f : Rt} {d : DS} {F : List Nat} (h : RD w f d) (hc : Chg F w w') (hF : ∀ x ∈ f.all, x ∉ F) : RD w' f d :=
  ⟨h.fit, h.head.chg hc (hF _ (by simp [Rt.all])), h.secs.chg hc (hF _ (by simp [Rt.all])), h.ok, h.apart⟩
theorem RD.below {w w' : World} {f : Rt} {d : DS} (h : RD w f d) (hc : Below w.heap.size w w') : RD w' f d := h.chg (.of_below (F := []) hc) (by simp)
theorem RD.lt {w : World} {f : Rt} {d : DS} (h : RD w f d) : ∀ x ∈ f.all, x < w.heap.size := by
  have h1 := h.head.lt
  have h2 := h.secs.lt
  simp only [Rt.all, List.mem_cons, List.not_mem_nil, or_false]
  rintro x (rfl | rfl) <;> assumption
theorem RD.withHead {w w' : World} {f : Rt} {d d' : DS} (h : RD w f d) (hs : d'.s = d.s) (hd : -1 ≤ d'.left ∧ d'.left ≤ 9223372036854775807)
    (hB : Blk w' f.p [.slice (some ⟨f.sb, 0, none⟩) d.s.length f.cap, .bool d'.off, .int .i64 d'.left] 57) (hc : Chg [f.p] w w') : RD w' f d' := by
  obtain ⟨h1, _, h3, h4, h5⟩ := h
  obtain ⟨s', o', l'⟩ := d'
  obtain ⟨s, o, l0⟩ := d
  dsimp only at *
  subst hs
  exact ⟨h1, hB, h3.chg hc (by simp; exact Ne.symm h5), ⟨h4.t, h4.p, h4.pos, h4.most, hd⟩, h5⟩
theorem rup_any (f : Rt) (d : DS) (w : World) (h : RD w f d) : Calls Try.prog 45 #[.pointer (some ⟨f.p, 0, none⟩)] w fun e w' => e = .returned (.bool (!d.off)) ∧ w' = w := by
  have c1 : w.cell? ⟨f.p, 1, none⟩ = some (.bool d.off) := h.head.cell rfl
  go_enter Try.func45, Try.ntmps45
  go_wp2
  go_ret
  exact ⟨rfl, rfl⟩
theorem rlen_any (f : Rt) (d : DS) (w : World) (h : RD w f d) : Calls Try.prog 44 #[.pointer (some ⟨f.p, 0, none⟩)] w fun e w' => e = .returned (.int .i64 d.s.length) ∧ w' = w := by
  have c0 : w.cell? ⟨f.p, 0, none⟩ = some (.slice (some ⟨f.sb, 0, none⟩) d.s.length f.cap) := h.head.cell rfl
  go_enter Try.func44, Try.ntmps44
  go_wp2
  go_ret
  exact ⟨rfl, rfl⟩
theorem ris_any (f : Rt) (d : DS) (i : Int) (w : World) (h : RD w f d) : Calls Try.prog 55 #[.pointer (some ⟨f.p, 0, none⟩), .int .i64 i] w fun e w' => e = .returned (.bool (inR d i)) ∧ w' = w := by
  have c0 : w.cell? ⟨f.p, 0, none⟩ = some (.slice (some ⟨f.sb, 0, none⟩) d.s.length f.cap) := h.head.cell rfl
  go_enter Try.func55, Try.ntmps55
  by_cases h0 : i < 0
  · have e : inR d i = false := by simp [inR, show ¬ 0 ≤ i by omega]
    go_wp2
    go_ret
    exact ⟨by first | rfl | simp [e], rfl⟩
  · by_cases h1 : (d.s.length : Int) ≤ i
    · have e : inR d i = false := by simp [inR, show ¬ i < (d.s.length : Int) by omega]
      have hi0 : 0 ≤ i := by omega
      go_wp2
      go_ret
      exact ⟨by first | rfl | (simp [e]; omega), rfl⟩
    · have e : inR d i = true := by simp [inR, show 0 ≤ i by omega, show i < (d.s.length : Int) by omega]
      have hi0 : 0 ≤ i := by omega
      have hi1 : i < (d.s.length : Int) := by omega
      go_wp2
      go_ret
      exact ⟨by first | rfl | simp [e], rfl⟩
theorem rstep_any (f : Rt) (d : DS) (w : World) (h : RD w f d) : Calls Try.prog 56 #[.pointer (some ⟨f.p, 0, none⟩)] w fun e w' => e = .returned (.int .i64 (astep d).1) ∧ RD w' f (astep d).2 ∧ Chg [f.p] w w' := by
  have hB := h.head
  have hleft := h.ok.left
  have c2 : w.cell? ⟨f.p, 2, none⟩ = some (.int .i64 d.left) := hB.cell rfl
  have hfr := hB.frozen
  have c1 : w.cell? ⟨f.p, 1, none⟩ = some (.bool d.off) := hB.cell rfl
  have hst := h.ok.step.left
  go_enter Try.func56, Try.ntmps56
  by_cases h0 : d.left = 0
  · have e : astep d = (25, { d with off := true }) := by unfold astep; rw [if_pos h0]
    have k := h.withHead (d' := { d with off := true }) (w' := w.setCell ⟨f.p, 1, none⟩ (.bool true)) rfl hleft (hB.set 1 _) ((Chg.refl _ _).set _ (by simp))
    have E := Lib.hid e; clear e
    go_wp2
    go_ret
    rw [E.out]
    exact ⟨rfl, k, (Chg.refl _ _).set _ (by simp)⟩
  · have hne : (d.left == 0) = false := by simpa using h0
    by_cases h1 : 0 < d.left
    · have e : astep d = (0, { d with left := d.left - 1 }) := by unfold astep; rw [if_neg h0, if_pos h1]
      rw [e] at hst
      have k := h.withHead (d' := { d with left := d.left - 1 }) (w' := w.setCell ⟨f.p, 2, none⟩ (.int .i64 (d.left - 1))) rfl hst (hB.set 2 _) ((Chg.refl _ _).set _ (by simp))
      have hw : IntKind.i64.wrap (d.left - 1) = d.left - 1 := IntWalk.i64_in _ (by omega)
      have E := Lib.hid e; clear e
      go_wp2
      go_ret
      rw [E.out]
      exact ⟨rfl, k, (Chg.refl _ _).set _ (by simp)⟩
    · have e : astep d = (0, d) := by unfold astep; rw [if_neg h0, if_neg h1]
      have E := Lib.hid e; clear e
      go_wp2
      go_ret
      rw [E.out]
      exact ⟨rfl, h, Chg.refl _ _⟩
theorem rtrip_any (f : Rt) (d : DS) (n : Int) (hn : -9223372036854775808 ≤ n ∧ n ≤ 9223372036854775807) (w : World) (h : RD w f d) : Calls Try.prog 36 #[.pointer (some ⟨f.p, 0, none⟩), .int .i64 n] w fun e w' => e = .returned (.tuple #[]) ∧ RD w' f (atrip d n) ∧ Chg [f.p] w w' := by
  have hB := h.head
  have hfr := hB.frozen
  have c2 : w.cell? ⟨f.p, 2, none⟩ = some (.int .i64 d.left) := hB.cell rfl
  have k := h.withHead (d' := atrip d n) (w' := w.setCell ⟨f.p, 2, none⟩ (.int .i64 (max (-1) n))) rfl (by simp only [atrip]; omega) (hB.set 2 _) ((Chg.refl _ _).set _ (by simp))
  go_enter Try.func36, Try.ntmps36
  go_wp2
  refine bodyPost_end (results_none rfl _ _ _) rfl ?_
  exact ⟨rfl, k, (Chg.refl _ _).set _ (by simp)⟩
end Go.Proofs.Ytkffgmhaiodagaa
