/- The disk's laws in plain Lean: scripts, settling in one sweep, what is kept, torn and rotten. No program. -/
import Derived.Test.YtkffgmhaiodagaaD0
namespace Go.Disk
open Go.RowKit Go.Own

/-- Settling all pending sectors in one sweep. -/
def sall : List Int → List Sec → List Sec
  | _, [] => []
  | ps, x :: xs => if x.p.isSome then settle1 (ps.headD 64) x :: sall ps.tail xs else x :: sall ps xs
def cnt (s : List Sec) (i : Nat) : Nat := (s.take i).countP fun x => x.p.isSome

theorem apend_cons (x : Sec) (xs : List Sec) : apend (x :: xs) = (if x.p.isSome then [0] else []) ++ (apend xs).map (· + 1) := by
  unfold apend
  rw [List.length_cons, List.range_succ_eq_map, List.filter_cons]
  have e : List.filter (fun i => ((x :: xs).getD i default).p.isSome) (List.map Nat.succ (List.range xs.length)) = (List.filter (fun i => (xs.getD i default).p.isSome) (List.range xs.length)).map (· + 1) := by
    rw [List.filter_map]
    rfl
  rw [e]
  simp only [List.getD_cons_zero]
  split <;> rfl
theorem settleTo_pre (pre : List Sec) : ∀ (ps : List Int) (L : List Nat) (s : List Sec), settleTo ps (L.map (· + pre.length)) (pre ++ s) = pre ++ settleTo ps L s
  | _, [], _ => rfl
  | ps, i :: L, s => by
    have e : (pre ++ s).modify (i + pre.length) (settle1 (ps.headD 64)) = pre ++ s.modify i (settle1 (ps.headD 64)) := by
      apply List.ext_getElem?
      intro j
      rw [List.getElem?_modify]
      by_cases hj : j < pre.length
      · have h : ¬ i + pre.length = j := by omega
        rw [List.getElem?_append_left hj, List.getElem?_append_left hj]
        simp [h]
      · rw [List.getElem?_append_right (by omega), List.getElem?_append_right (by omega), List.getElem?_modify]
        by_cases h : i = j - pre.length
        · have h2 : i + pre.length = j := by omega
          simp [h, show j - pre.length + pre.length = j by omega]
        · have h2 : ¬ i + pre.length = j := by omega
          simp [h, h2]
    rw [List.map_cons, settleTo, e, settleTo_pre pre, settleTo]
theorem settleTo_sall : ∀ (s : List Sec) (ps : List Int), settleTo ps (apend s) s = sall ps s
  | [], _ => rfl
  | x :: xs, ps => by
    rw [apend_cons]
    by_cases hx : x.p.isSome = true
    · rw [if_pos hx]
      have := settleTo_pre [settle1 (ps.headD 64) x] ps.tail (apend xs) xs
      simp only [List.length_singleton, List.singleton_append] at this ⊢
      rw [settleTo, sall, if_pos hx, ← settleTo_sall xs, ← this]
      rfl
    · rw [if_neg hx]
      have := settleTo_pre [x] ps (apend xs) xs
      simp only [List.length_singleton, List.singleton_append, List.nil_append] at this ⊢
      rw [this, sall, if_neg hx, settleTo_sall xs]
theorem sall_length : ∀ (s : List Sec) (ps : List Int), (sall ps s).length = s.length
  | [], _ => rfl
  | x :: xs, ps => by unfold sall; split <;> simp [sall_length xs]
theorem sall_getD : ∀ (s : List Sec) (ps : List Int) (i : Nat), i < s.length → (sall ps s).getD i default = if (s.getD i default).p.isSome then settle1 (ps.getD (cnt s i) 64) (s.getD i default) else s.getD i default
  | [], _, _, h => by simp at h
  | x :: xs, ps, 0, _ => by
    unfold sall
    by_cases hx : x.p.isSome = true
    · simp [hx, cnt, List.headD_eq_head?_getD, List.head?_eq_getElem?]
    · simp [hx]
  | x :: xs, ps, i + 1, h => by
    have ih := fun ps => sall_getD xs ps i (by simpa using h)
    unfold sall
    by_cases hx : x.p.isSome = true
    · rw [if_pos hx]
      have e : cnt (x :: xs) (i + 1) = cnt xs i + 1 := by simp [cnt, hx]
      rw [List.getD_cons_succ, ih, List.getD_cons_succ, e]
      have e2 : ps.tail.getD (cnt xs i) 64 = ps.getD (cnt xs i + 1) 64 := by simp [List.getD_eq_getElem?_getD]
      rw [e2]
    · rw [if_neg hx]
      have e : cnt (x :: xs) (i + 1) = cnt xs i := by simp [cnt, hx]
      rw [List.getD_cons_succ, ih, List.getD_cons_succ, e]
theorem cnt_succ (s : List Sec) (i : Nat) (h : i < s.length) : cnt s (i + 1) = cnt s i + if (s.getD i default).p.isSome then 1 else 0 := by
  unfold cnt
  rw [List.take_add_one, List.getElem?_eq_getElem h, List.countP_append, List.getD_eq_getElem?_getD, List.getElem?_eq_getElem h]
  simp [List.countP_cons]

/-- An operation of a script. -/
structure Op where
  kind : Int
  i : Int
  bit : Int
  text : List UInt8
  picks : List Int
def opText (s : List UInt8) : List UInt8 := if s = [] then [] else s ++ List.replicate (64 - s.length) (s.getLastD 0)
def ado (d : DS) (o : Op) : (List UInt8 × Int) × DS :=
  if o.kind = 1 then (([], (awrite d o.i (opText o.text)).1), (awrite d o.i (opText o.text)).2)
  else if o.kind = 2 then (aread d o.i, d)
  else if o.kind = 3 then (([], (aflush d).1), (aflush d).2)
  else if o.kind = 4 then (([], 0), atrip d o.i)
  else if o.kind = 5 then (([], 0), amount d o.picks)
  else if o.kind = 6 then (([], (arot d o.i o.bit).1), (arot d o.i o.bit).2)
  else if o.kind = 7 then (([], (awear d o.i).1), (awear d o.i).2)
  else (([], 0), d)
def arun (d : DS) (l : List Op) : DS := l.foldl (fun d o => (ado d o).2) d

theorem sall_mem {s : List Sec} : ∀ {ps : List Int} {x : Sec}, x ∈ sall ps s → ∃ y ∈ s, x = y ∨ ∃ p, x = settle1 p y := by
  induction s with
  | nil => intro ps x h; cases h
  | cons y ys ih =>
    intro ps x h
    unfold sall at h
    by_cases hy : y.p.isSome = true
    · rw [if_pos hy] at h
      rcases List.mem_cons.1 h with rfl | h
      · exact ⟨y, List.mem_cons_self, .inr ⟨_, rfl⟩⟩
      · obtain ⟨z, hz, hh⟩ := ih h
        exact ⟨z, List.mem_cons_of_mem _ hz, hh⟩
    · rw [if_neg hy] at h
      rcases List.mem_cons.1 h with rfl | h
      · exact ⟨x, List.mem_cons_self, .inl rfl⟩
      · obtain ⟨z, hz, hh⟩ := ih h
        exact ⟨z, List.mem_cons_of_mem _ hz, hh⟩
theorem Ok.sall {d : DS} (h : Ok d) (ps : List Int) (off : Bool) (left : Int) (hl : -1 ≤ left ∧ left ≤ 9223372036854775807) : Ok { s := sall ps d.s, off := off, left := left } where
  t := fun x hx => by
    obtain ⟨y, hy, rfl | ⟨p, rfl⟩⟩ := sall_mem hx
    · exact h.t _ hy
    · exact (settle1_len p y (h.t _ hy) (h.p _ hy)).1
  p := fun x hx => by
    obtain ⟨y, hy, rfl | ⟨p, rfl⟩⟩ := sall_mem hx
    · exact h.p _ hy
    · exact (settle1_len p y (h.t _ hy) (h.p _ hy)).2
  pos := by simpa [sall_length] using h.pos
  most := by simpa [sall_length] using h.most
  left := hl
theorem rotT_len (b : Nat) (t : List UInt8) : (rotT b t).length = t.length := by simp [rotT]
theorem ado_len (d : DS) (o : Op) : (ado d o).2.s.length = d.s.length := by
  unfold ado
  have h1 : ∀ i b, (awrite d i b).2.s.length = d.s.length := fun i b => by
    unfold awrite
    split
    · rfl
    · split
      · rfl
      · split
        · rw [astep_s]
        · simp [upd, astep_s]
  have h3 : (aflush d).2.s.length = d.s.length := by
    unfold aflush
    split
    · rfl
    · split
      · rw [astep_s]
      · simp only [settleTo_sall, sall_length]
  have h6 : ∀ i b, (arot d i b).2.s.length = d.s.length := fun i b => by
    unfold arot
    split
    · simp [upd]
    · rfl
  have h7 : ∀ i, (awear d i).2.s.length = d.s.length := fun i => by
    unfold awear
    split
    · simp [upd]
    · rfl
  repeat' split
  all_goals first | exact h1 _ _ | exact h3 | exact h6 _ _ | exact h7 _ | rfl | (simp only [amount, settleTo_sall, sall_length])
end Go.Disk
