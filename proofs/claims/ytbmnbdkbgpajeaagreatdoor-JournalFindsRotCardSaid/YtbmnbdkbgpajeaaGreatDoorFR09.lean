/- The journal in plain Lean: what Append does to a disk whose sectors are known. No program. -/
import Derived.Test.YtbmnbdkbgpajeaaGreatDoorFR08
/- The journal in plain Lean: what Append does to a disk whose sectors are known. No program. -/
section
namespace Go.Jn
open Go.Disk Go.Sha Go.Own
/-- sectors with what is written to the first of them -/
def wr : List Sec → List (List UInt8) → List Sec
  | x :: B, b :: l => { x with p := some b } :: wr B l
  | B, _ => B
theorem wr_nil (B : List Sec) : wr B [] = B := by cases B <;> rfl
theorem wr_length : ∀ (B : List Sec) (l : List (List UInt8)), (wr B l).length = B.length
  | [], l => by cases l <;> rfl
  | x :: B, [] => rfl
  | x :: B, b :: l => by unfold wr; rw [List.length_cons, List.length_cons, wr_length]
theorem upd_at (d : DS) {A : List Sec} {x : Sec} {B : List Sec} (hs : d.s = A ++ x :: B) (f : Sec → Sec) : upd d (A.length : Int) f = { d with s := A ++ f x :: B } := by
  unfold upd
  rw [hs, Int.toNat_natCast]
  congr 1
  clear hs
  induction A with
  | nil => rfl
  | cons y A ih => rw [List.cons_append, List.length_cons, List.modify_succ_cons, ih]; rfl
theorem acheck_at {d : DS} {i : Nat} (h0 : d.off = false) (hi : i < d.s.length) : acheck d i = 0 := by
  unfold acheck inR
  rw [h0]
  simp; omega
theorem astep_cases (d : DS) (h0 : d.off = false) : ((astep d).1 = 0 ∧ (astep d).2.off = false ∧ (astep d).2.s = d.s ∧ (d.left = -1 → (astep d).2 = d)) ∨ ((astep d).1 = 25 ∧ (astep d).2.off = true ∧ (astep d).2.s = d.s ∧ d.left ≠ -1) := by
  unfold astep
  by_cases h1 : d.left = 0
  · rw [if_pos h1]; right; exact ⟨rfl, rfl, rfl, by omega⟩
  · rw [if_neg h1]
    left
    by_cases h2 : 0 < d.left
    · rw [if_pos h2]; exact ⟨rfl, h0, rfl, fun h => by omega⟩
    · rw [if_neg h2]; exact ⟨rfl, h0, rfl, fun _ => rfl⟩
/-- how far the sectors are written -/
theorem awrites_gen : ∀ (l : List (List UInt8)) (d : DS) (A B C : List Sec), d.s = A ++ (B ++ C) → B.length = l.length → (∀ b ∈ l, b.length = 64) → d.off = false →
    ∃ q, q ≤ l.length ∧ (awrites d A.length l).2.s = A ++ (wr B (l.take q) ++ C) ∧
      (((awrites d A.length l).1 = 0 ∧ q = l.length ∧ (awrites d A.length l).2.off = false ∧ (d.left = -1 → (awrites d A.length l).2.left = -1)) ∨ ((awrites d A.length l).1 = 25 ∧ (awrites d A.length l).2.off = true ∧ d.left ≠ -1))
  | [], d, A, B, C, hs, hB, _, h0 => ⟨0, Nat.le_refl _, by rw [List.take_nil, wr_nil]; exact hs, .inl ⟨rfl, rfl, h0, fun h => h⟩⟩
  | b :: l, d, A, x :: B, C, hs, hB, h64, h0 => by
    have hlen : A.length < d.s.length := by rw [hs]; simp
    have hck : acheck d (A.length : Int) = 0 := acheck_at h0 hlen
    have hb := h64 b (List.mem_cons_self ..)
    have haw : awrite d (A.length : Int) b = if (astep d).1 ≠ 0 then astep d else (0, upd (astep d).2 (A.length : Int) fun x => { x with p := some b }) := by
      unfold awrite
      rw [if_neg (by rw [hck]; simp), if_neg (by rw [hb]; simp)]
    rcases astep_cases d h0 with ⟨s1, s2, s3, s4⟩ | ⟨s1, s2, s3, s4⟩
    · rw [if_neg (by rw [s1]; simp)] at haw
      have hup := upd_at (astep d).2 (A := A) (x := x) (B := B ++ C) (by rw [s3, hs]; rfl) (fun x => { x with p := some b })
      obtain ⟨q, q1, q2, q3⟩ := awrites_gen l (upd (astep d).2 (A.length : Int) fun x => { x with p := some b }) (A ++ [{ x with p := some b }]) B C (by rw [hup]; simp) (by simpa using hB) (fun c hc => h64 c (List.mem_cons_of_mem _ hc)) (by rw [hup]; exact s2)
      have e : awrites d A.length (b :: l) = awrites (upd (astep d).2 (A.length : Int) fun x => { x with p := some b }) (A ++ [{ x with p := some b }]).length l := by
        conv => lhs; unfold awrites
        rw [haw, if_neg (by simp)]
        simp
      rw [e]
      refine ⟨q + 1, by rw [List.length_cons]; omega, ?_, ?_⟩
      · rw [q2, List.take_succ_cons]; simp [wr]
      · rcases q3 with ⟨a1, a2, a3, a4⟩ | ⟨a1, a2, a3⟩
        · exact .inl ⟨a1, by rw [List.length_cons, a2], a3, fun h => a4 (by rw [hup, s4 h]; exact h)⟩
        · refine .inr ⟨a1, a2, fun h => a3 (by rw [hup, s4 h]; exact h)⟩
    · rw [if_pos (by rw [s1]; decide)] at haw
      have e : awrites d A.length (b :: l) = astep d := by
        unfold awrites
        rw [haw, if_pos (by rw [s1]; decide)]
      rw [e]
      exact ⟨0, Nat.zero_le _, by rw [List.take_zero, wr_nil, s3]; exact hs, .inr ⟨s1, s2, s4⟩⟩
  | b :: l, d, A, [], C, hs, hB, _, _ => by simp at hB
def quiet (s : List Sec) : Prop := ∀ x ∈ s, x.p = none
theorem sall_quiet : ∀ (A : List Sec) (ps : List Int) (r : List Sec), quiet A → sall ps (A ++ r) = A ++ sall ps r
  | [], _, _, _ => rfl
  | x :: A, ps, r, h => by
    have hx := h x (List.mem_cons_self ..)
    rw [List.cons_append]
    conv => lhs; unfold sall
    rw [hx, if_neg (by simp), sall_quiet A ps r fun y hy => h y (List.mem_cons_of_mem _ hy)]
    rfl
theorem sall_quiet' {A : List Sec} {ps : List Int} (h : quiet A) : sall ps A = A := by have := sall_quiet A ps [] h; simpa [sall] using this
/-- written sectors, torn -/
def torn : List Int → List Sec → List (List UInt8) → List Sec
  | ps, x :: B, b :: l => settle1 (ps.headD 64) { x with p := some b } :: torn ps.tail B l
  | _, B, _ => B
theorem sall_wr : ∀ (B : List Sec) (l : List (List UInt8)) (ps : List Int) (C : List Sec), quiet B → quiet C → sall ps (wr B l ++ C) = torn ps B l ++ C
  | [], l, ps, C, _, hC => by cases l <;> simp [wr, torn, sall_quiet' hC]
  | x :: B, [], ps, C, hB, hC => by
    rw [wr_nil]
    show _ = (x :: B) ++ C
    rw [sall_quiet _ _ _ hB, sall_quiet' hC]
  | x :: B, b :: l, ps, C, hB, hC => by
    unfold wr torn
    rw [List.cons_append]
    conv => lhs; unfold sall
    rw [if_pos (show (some b).isSome = true from rfl), sall_wr B l ps.tail C (fun y hy => hB y (List.mem_cons_of_mem _ hy)) hC, List.cons_append]
theorem torn_length : ∀ (ps : List Int) (B : List Sec) (l : List (List UInt8)), (torn ps B l).length = B.length
  | _, [], l => by cases l <;> rfl
  | _, x :: B, [] => rfl
  | ps, x :: B, b :: l => by unfold torn; rw [List.length_cons, List.length_cons, torn_length]
theorem torn_at : ∀ (ps : List Int) (B : List Sec) (l : List (List UInt8)) (i : Nat) (hi : i < B.length), (torn ps B l)[i]'(by rw [torn_length]; exact hi) = if h : i < l.length then settle1 (ps.getD i 64) { B[i] with p := some l[i] } else B[i]
  | _, [], _, _, hi => absurd hi (Nat.not_lt_zero _)
  | ps, x :: B, [], i, hi => by
    have e : ¬ i < ([] : List (List UInt8)).length := Nat.not_lt_zero _
    rw [dif_neg e]; rfl
  | ps, x :: B, b :: l, 0, hi => by
    rw [dif_pos (by simp)]
    unfold torn
    simp only [List.getElem_cons_zero]
    congr 1
    cases ps <;> rfl
  | ps, x :: B, b :: l, i + 1, hi => by
    have ih := torn_at ps.tail B l i (by simpa using hi)
    unfold torn
    simp only [List.getElem_cons_succ, List.length_cons, Nat.add_lt_add_iff_right]
    rw [ih]
    have e : ps.tail.getD i 64 = ps.getD (i + 1) 64 := by cases ps <;> rfl
    rw [e]
/-- what Flush makes of written sectors -/
theorem aflush_wr {d : DS} {A B C : List Sec} {l : List (List UInt8)} (hs : d.s = A ++ (wr B l ++ C)) (hA : quiet A) (hB : quiet B) (hC : quiet C) (h0 : d.off = false) :
    ((aflush d).1 = 0 ∧ (aflush d).2.s = A ++ (torn [] B l ++ C) ∧ (aflush d).2.off = false ∧ (d.left = -1 → (aflush d).2.left = -1)) ∨ ((aflush d).1 = 25 ∧ (aflush d).2.s = d.s ∧ (aflush d).2.off = true ∧ d.left ≠ -1) := by
  unfold aflush
  rw [if_neg (by rw [h0]; simp)]
  rcases astep_cases d h0 with ⟨s1, s2, s3, s4⟩ | ⟨s1, s2, s3, s4⟩
  · rw [if_neg (by rw [s1]; simp)]
    left
    refine ⟨rfl, ?_, s2, fun h => by rw [s4 h]; exact h⟩
    show settleTo [] (apend d.s) d.s = _
    rw [settleTo_sall, hs, sall_quiet _ _ _ hA, sall_wr B l [] C hB hC]
  · rw [if_pos (by rw [s1]; decide)]
    exact .inr ⟨s1, s3, s2, s4⟩
theorem amount_wr {d : DS} {A B C : List Sec} {l : List (List UInt8)} (hs : d.s = A ++ (wr B l ++ C)) (hA : quiet A) (hB : quiet B) (hC : quiet C) (ps : List Int) : amount d ps = ⟨A ++ (torn ps B l ++ C), false, -1⟩ := by
  unfold amount
  rw [settleTo_sall, hs, sall_quiet _ _ _ hA, sall_wr B l ps C hB hC]
/-- sectors are read again -/
theorem areads_all : ∀ (l : List (List UInt8)) (d : DS) (A B C : List Sec) (b : Bool), d.s = A ++ (B ++ C) → B.length = l.length → d.off = false → areads d A.length l b = (0, b && decide (l = B.map cont))
  | [], d, A, B, C, b, _, hB, _ => by
    have : B = [] := List.eq_nil_of_length_eq_zero hB
    subst this
    simp [areads]
  | s :: l, d, A, x :: B, C, b, hs, hB, h0 => by
    have hlen : A.length < d.s.length := by rw [hs]; simp
    have hck : acheck d (A.length : Int) = 0 := acheck_at h0 hlen
    have hrd : aread d (A.length : Int) = (cont x, 0) := by
      unfold aread sec
      rw [if_neg (by rw [hck]; simp), hs]
      simp [cont]
    have ih := areads_all l d (A ++ [x]) B C (b && decide (s = cont x)) (by rw [hs]; simp) (by simpa using hB) h0
    unfold areads
    rw [hrd, if_neg (by simp), List.length_append] at *
    rw [List.length_singleton] at ih
    rw [ih]
    congr 1
    cases b <;> by_cases h1 : s = cont x <;> simp [h1]
  | s :: l, d, A, [], C, b, _, hB, _ => by simp at hB
end Go.Jn
end
/- The journal in plain Lean: each record that was appended is found again (GoesOn). No program. -/
section
namespace Go.Jn
open Go.Disk Go.Sha Go.Own
theorem unpack_zeros : (unpack Disk.zeros).ok = false := by rw [unpack_ok]; exact blank_bad (by decide)
/-- a journal without failures -/
structure Inv (d : DS) (j : JS) (A B : List Sec) : Prop where
  off : d.off = false
  left : d.left = -1
  closed : j.closed = false
  next : 1 ≤ j.next
  sec : d.s = A ++ B
  fin : A.length = j.fin
  qa : quiet A
  zb : ∀ x ∈ B, x.t = Disk.zeros ∧ x.p = none
  scan : ∀ r, scanL (A.map (fun x => unpack (cont x)) ++ r) [] = scanL r j.rs
  nums : ∀ z ∈ j.rs, z.1 < j.next
theorem Inv.found {d : DS} {j : JS} {A B : List Sec} (h : Inv d j A B) : (found (d.s.map cont)).rs = j.rs := by
  rw [found_rs, h.sec, List.map_append, List.map_append, List.map_map]
  have e : List.map (unpack ∘ cont) A = A.map (fun x => unpack (cont x)) := rfl
  rw [e, h.scan]
  have := scanL_bads ((B.map cont).map unpack) j.rs [] (fun x hx => by
    rw [List.map_map] at hx
    obtain ⟨y, hy, rfl⟩ := List.mem_map.1 hx
    obtain ⟨h1, h2⟩ := h.zb y hy
    left
    show (unpack (cont y)).ok = false
    unfold cont
    rw [h2, h1]; exact unpack_zeros)
  rw [List.append_nil] at this
  exact this
theorem settle_full {x : Sec} {b : List UInt8} (hb : b.length = 64) (hx : x.t.length = 64) : settle1 64 { x with p := some b } = { t := if x.w then x.t else b, p := none, w := x.w } := by
  unfold settle1 clamp
  have e : ((max 0 (min (64 : Int) 64)).toNat) = 64 := by decide
  rw [e]
  simp only [Option.getD_some]
  rw [List.take_of_length_le (by omega), List.drop_of_length_le (by omega), List.append_nil]
theorem torn_full {B : List Sec} {l : List (List UInt8)} (hl : l.length = B.length) (h64 : ∀ b ∈ l, b.length = 64) (hz : ∀ x ∈ B, x.t = Disk.zeros ∧ x.p = none) {i : Nat} (hi : i < B.length) :
    (torn [] B l)[i]'(by rw [torn_length]; exact hi) = { t := if B[i].w then Disk.zeros else l[i]'(by omega), p := none, w := B[i].w } := by
  have hz' := hz B[i] (List.getElem_mem hi)
  rw [torn_at [] B l i hi, dif_pos (by omega)]
  have e : ([] : List Int).getD i 64 = 64 := rfl
  rw [e, settle_full (h64 _ (List.getElem_mem _)) (by rw [hz'.1]; rfl), hz'.1]
theorem pack_64 (n : Nat) (t : List UInt8) : ∀ b ∈ pack n t, b.length = 64 := by
  intro b hb
  unfold pack at hb
  obtain ⟨k, _, rfl⟩ := List.mem_map.1 hb
  exact sect_length _ _ _
theorem pack_get {n : Nat} {t : List UInt8} {k : Nat} (hk : k < (pack n t).length) : (pack n t)[k] = sect n t k := by
  have h := pack_at (n := n) (t := t) (k := k) (by rw [← pack_length n t]; exact hk)
  rw [List.getElem?_eq_getElem hk] at h
  exact Option.some.inj h
/-- what one Append does -/
structure Stp (d : DS) (j : JS) (t : List UInt8) (A B A' B' : List Sec) : Prop where
  inv : Inv (aappend d j t).2.2.2 (aappend d j t).2.2.1 A' B'
  len : (aappend d j t).2.2.2.s.length = d.s.length
  res : ((aappend d j t).2.1 = 0 ∧ (aappend d j t).1 = j.next ∧ (aappend d j t).2.2.1.rs = j.rs ++ [(j.next, t)] ∧ (aappend d j t).2.2.1.next = j.next + 1) ∨
    (((aappend d j t).2.1 = 26 ∨ (aappend d j t).2.1 = 24 ∨ (aappend d j t).2.1 = 4) ∧ (aappend d j t).2.2.1.rs = j.rs ∧ j.next ≤ (aappend d j t).2.2.1.next)
  ext : (aappend d j t).2.1 = 0 → ∃ T, A' = A ++ T ∧ T.map cont = pack j.next t ∧ t.length ≤ 8000 ∧ j.next ≤ 4096
  same : (aappend d j t).2.1 = 24 ∨ (aappend d j t).2.1 = 4 → (aappend d j t).2.2 = (j, d) ∧ A' = A ∧ B' = B
  nw : (∀ x ∈ d.s, x.w = false) → (aappend d j t).2.1 ≠ 26 ∧ ∀ x ∈ (aappend d j t).2.2.2.s, x.w = false
  bad : (aappend d j t).2.2.1.bad = j.bad
theorem aappend_step {d : DS} {j : JS} {A B : List Sec} (h : Inv d j A B) (t : List UInt8) : ∃ A' B', Stp d j t A B A' B' := by
  have hd : aappend d j t = aappend d j t := rfl
  conv at hd => rhs; unfold aappend
  rw [h.closed, if_neg Bool.false_ne_true] at hd
  by_cases h1 : 8000 < t.length ∨ 4096 < j.next
  · rw [if_pos h1] at hd
    exact ⟨A, B, by rw [hd]; exact h, by rw [hd], .inr ⟨.inr (.inr (by rw [hd])), by rw [hd], by rw [hd]; exact Nat.le_refl _⟩, by rw [hd]; intro h; exact absurd h (by simp), fun _ => ⟨by rw [hd], rfl, rfl⟩, fun h => by rw [hd]; exact ⟨by simp, h⟩, by rw [hd]⟩
  · rw [if_neg h1] at hd
    have ht : t.length ≤ 8000 := by omega
    have hn2 : j.next ≤ 4096 := by omega
    have hlen : d.s.length = A.length + B.length := by rw [h.sec, List.length_append]
    have hc0 := cntN_pos ht
    by_cases h2 : room d j < cntN t.length
    · rw [if_pos h2] at hd
      exact ⟨A, B, by rw [hd]; exact h, by rw [hd], .inr ⟨.inr (.inl (by rw [hd])), by rw [hd], by rw [hd]; exact Nat.le_refl _⟩, by rw [hd]; intro h; exact absurd h (by simp), fun _ => ⟨by rw [hd], rfl, rfl⟩, fun h => by rw [hd]; exact ⟨by simp, h⟩, by rw [hd]⟩
    · rw [if_neg h2] at hd
      have hcB : cntN t.length ≤ B.length := by unfold room at h2; have := h.fin; omega
      have hpl := pack_length j.next t
      have h64 := pack_64 j.next t
      obtain ⟨l, hl⟩ : ∃ l, l = pack j.next t := ⟨_, rfl⟩
      rw [← hl] at hpl h64 hd
      have hB : B = B.take (cntN t.length) ++ B.drop (cntN t.length) := (List.take_append_drop _ _).symm
      have hB1 : (B.take (cntN t.length)).length = l.length := by rw [List.length_take, hpl]; omega
      have hz1 : ∀ x ∈ B.take (cntN t.length), x.t = Disk.zeros ∧ x.p = none := fun x hx => h.zb x (List.mem_of_mem_take hx)
      have hz2 : ∀ x ∈ B.drop (cntN t.length), x.t = Disk.zeros ∧ x.p = none := fun x hx => h.zb x (List.mem_of_mem_drop hx)
      generalize B.take (cntN t.length) = B1 at *
      generalize B.drop (cntN t.length) = B2 at *
      subst hB
      have q1 : quiet B1 := fun x hx => (hz1 x hx).2
      have q2 : quiet B2 := fun x hx => (hz2 x hx).2
      obtain ⟨q, _, w2, w3⟩ := awrites_gen l d A B1 B2 h.sec hB1 h64 h.off
      rw [h.fin] at w2 w3
      rcases w3 with ⟨w3, w4, w5, w6⟩ | ⟨_, _, w7⟩
      · subst w4
        rw [List.take_length] at w2
        obtain ⟨d1, hd1⟩ : ∃ d1, d1 = (awrites d j.fin l).2 := ⟨_, rfl⟩
        rw [← hd1] at w2 w5 w6
        have w6' := w6 h.left
        rcases aflush_wr w2 h.qa q1 q2 w5 with ⟨f1, f2, f3, f4⟩ | ⟨_, _, _, f5⟩
        · obtain ⟨d2, hd2⟩ : ∃ d2, d2 = (aflush d1).2 := ⟨_, rfl⟩
          rw [← hd2] at f2 f3 f4
          have f4' := f4 w6'
          have hr := areads_all l d2 A (torn [] B1 l) B2 true f2 (by rw [torn_length, hB1]) f3
          rw [h.fin, Bool.true_and] at hr
          have hd' := hd
          dsimp only at hd'
          rw [if_neg (by rw [w3]; simp), ← hd1, if_neg (by rw [f1]; simp), ← hd2, hr] at hd'
          dsimp only at hd'
          rw [if_neg (by simp)] at hd'
          have htl : (torn [] B1 l).length = cntN t.length := by rw [torn_length, hB1, hpl]
          have hta : ∀ i (hi : i < B1.length), (torn [] B1 l)[i]'(by rw [torn_length]; exact hi) = { t := if B1[i].w then Disk.zeros else l[i]'(by omega), p := none, w := B1[i].w } := fun i hi => torn_full (by omega) h64 hz1 hi
          have qt : quiet (torn [] B1 l) := fun x hx => by
            obtain ⟨i, hi, rfl⟩ := List.getElem_of_mem hx
            rw [hta i (by rw [torn_length] at hi; exact hi)]
          have hfin : (A ++ torn [] B1 l).length = j.fin + cntN t.length := by rw [List.length_append, htl, h.fin]
          have hlen2 : d2.s.length = d.s.length := by rw [f2, h.sec]; simp [torn_length]
          have hnums : ∀ z ∈ j.rs, z.1 < j.next + 1 := fun z hz => Nat.lt_succ_of_lt (h.nums z hz)
          have hnw : (∀ x ∈ d.s, x.w = false) → ∀ x ∈ d2.s, x.w = false := fun hw x hx => by
            rw [f2] at hx
            rw [h.sec] at hw
            rcases List.mem_append.1 hx with hx | hx
            · exact hw x (List.mem_append_left _ hx)
            · rcases List.mem_append.1 hx with hx | hx
              · obtain ⟨i, hi, rfl⟩ := List.getElem_of_mem hx
                rw [torn_length] at hi
                rw [hta i hi]
                exact hw B1[i] (List.mem_append_right _ (List.mem_append_left _ (List.getElem_mem hi)))
              · exact hw x (List.mem_append_right _ (List.mem_append_right _ hx))
          by_cases hsame : l = (torn [] B1 l).map cont
          · rw [if_pos (by simpa using hsame)] at hd'
            refine ⟨A ++ torn [] B1 l, B2, ?_, ?_, ?_, ?_, ?_, ?_, ?_⟩
            · rw [hd']
              refine ⟨f3, f4', rfl, Nat.le_succ_of_le h.next, by rw [f2]; simp, hfin, ?_, hz2, fun r => ?_, ?_⟩
              · intro x hx
                rcases List.mem_append.1 hx with hx | hx
                · exact h.qa x hx
                · exact qt x hx
              · have e : (torn [] B1 l).map (fun x => unpack (cont x)) = parts j.next t := by
                  rw [← parts_pack h.next hn2 ht, ← hl]
                  conv => rhs; rw [hsame]
                  rw [List.map_map]; rfl
                rw [List.map_append, List.append_assoc, h.scan, e]
                exact scanL_parts ht r j.rs fun z hz => Nat.ne_of_lt (h.nums z hz)
              · intro z hz
                rcases List.mem_append.1 hz with hz | hz
                · exact hnums z hz
                · rw [List.mem_singleton] at hz; rw [hz]; exact Nat.lt_succ_self _
            · rw [hd']; exact hlen2
            · left; rw [hd']; exact ⟨rfl, rfl, rfl, rfl⟩
            · intro _; exact ⟨_, rfl, by rw [← hl]; exact hsame.symm, ht, hn2⟩
            · rw [hd']; intro h; rcases h with h | h <;> exact absurd h (by simp)
            · intro hw; rw [hd']; exact ⟨by simp, hnw hw⟩
            · rw [hd']
          · rw [if_neg (by simpa using hsame)] at hd'
            have hbad : ∃ i, ∃ hi : i < B1.length, B1[i].w = true := by
              refine Classical.byContradiction fun hno => hsame ?_
              apply List.ext_getElem (by rw [List.length_map, htl, hpl])
              intro i h1 h2
              have hi : i < B1.length := by omega
              rw [List.getElem_map, hta i hi]
              have hw : B1[i].w = false := by
                cases hw : B1[i].w with
                | false => rfl
                | true => exact absurd ⟨i, hi, hw⟩ hno
              rw [hw]; rfl
            refine ⟨A ++ torn [] B1 l, B2, ?_, ?_, ?_, ?_, ?_, ?_, ?_⟩
            · rw [hd']
              refine ⟨f3, f4', rfl, Nat.le_succ_of_le h.next, by rw [f2]; simp, hfin, ?_, hz2, fun r => ?_, hnums⟩
              · intro x hx
                rcases List.mem_append.1 hx with hx | hx
                · exact h.qa x hx
                · exact qt x hx
              · rw [List.map_append, List.append_assoc, h.scan]
                have hml : ((torn [] B1 l).map fun x => unpack (cont x)).length = cntN t.length := by rw [List.length_map, htl]
                refine scanL_broken (n := j.next) ht hml ?_ ?_ r j.rs
                · intro i hi
                  have hi2 : i < B1.length := by rw [hml] at hi; omega
                  rw [List.getElem_map, hta i hi2]
                  cases hw : B1[i].w with
                  | true => left; exact unpack_zeros
                  | false =>
                    right
                    show unpack (l[i]'(by omega)) = _
                    have e : l[i]'(by omega) = sect j.next t i := by
                      subst hl; exact pack_get _
                    rw [e]
                    exact unpack_sect h.next hn2 ht (by omega)
                · obtain ⟨i, hi, hw⟩ := hbad
                  refine ⟨i, by rw [hml]; omega, ?_⟩
                  rw [List.getElem_map, hta i hi, hw]
                  exact unpack_zeros
            · rw [hd']; exact hlen2
            · right; rw [hd']; exact ⟨.inl rfl, rfl, Nat.le_succ _⟩
            · rw [hd']; intro h; exact absurd h (by simp)
            · rw [hd']; intro h; rcases h with h | h <;> exact absurd h (by simp)
            · intro hw
              obtain ⟨i, hi, hw2⟩ := hbad
              have := hw B1[i] (by rw [h.sec]; exact List.mem_append_right _ (List.mem_append_left _ (List.getElem_mem hi)))
              rw [this] at hw2; cases hw2
            · rw [hd']
        · exact absurd w6' f5
      · exact absurd h.left w7
theorem found_empty {l : List (List UInt8)} (h : ∀ s ∈ l, s = Disk.zeros) : found l = ⟨[], [], 1, 0, false⟩ := by
  have hu : ∀ s ∈ l, unpack s = prt0 := fun s hs => by rw [h s hs]; unfold unpack; rw [blank_bad (by decide : blank Disk.zeros = true)]; rfl
  have hb : ∀ i, i < l.length → l.getD i [] = Disk.zeros := fun i hi => by rw [List.getD_eq_getElem?_getD, List.getElem?_eq_getElem hi]; exact h _ (List.getElem_mem hi)
  have hz : blank Disk.zeros = true := by decide
  unfold found
  congr 1
  · have e1 := scanL_bads (l.map unpack) [] [] (fun x hx => by obtain ⟨s, hs, rfl⟩ := List.mem_map.1 hx; left; rw [hu s hs]; rfl)
    rw [List.append_nil] at e1
    unfold scanL at e1
    rw [List.length_map] at e1
    exact e1
  · rw [List.filter_eq_nil_iff]
    intro i hi
    rw [hb i (List.mem_range.1 hi), hz]; simp
  · have : ∀ (l : List (List UInt8)), (∀ s ∈ l, unpack s = prt0) → l.foldl (fun m s => max m ((unpack s).n + 1)) 1 = 1 := fun l hl => by
      induction l with
      | nil => rfl
      | cons s l ih => rw [List.foldl_cons, hl s (List.mem_cons_self ..)]; exact ih fun x hx => hl x (List.mem_cons_of_mem _ hx)
    exact this l hu
  · have : ∀ (k : List Nat) (m : Nat), (∀ i ∈ k, blank (l.getD i []) = true) → k.foldl (fun m i => if blank (l.getD i []) then m else i + 1) m = m := fun k => by
      induction k with
      | nil => intro m _; rfl
      | cons i k ih => intro m hk; rw [List.foldl_cons, hk i (List.mem_cons_self ..)]; exact ih m fun x hx => hk x (List.mem_cons_of_mem _ hx)
    exact this _ 0 fun i hi => by rw [hb i (List.mem_range.1 hi)]; exact hz
/-- the journal of an empty disk -/
theorem Inv.start {d : DS} (h0 : d.off = false) (h1 : d.left = -1) (hz : ∀ x ∈ d.s, x.t = Disk.zeros ∧ x.p = none) : (aopen d).2 = 0 ∧ (aopen d).1 = some ⟨[], [], 1, 0, false⟩ ∧ Inv d ⟨[], [], 1, 0, false⟩ [] d.s := by
  have hf := found_empty (l := d.s.map cont) (fun s hs => by obtain ⟨x, hx, rfl⟩ := List.mem_map.1 hs; unfold cont; rw [(hz x hx).2, (hz x hx).1]; rfl)
  unfold aopen
  rw [h0, if_neg Bool.false_ne_true, hf]
  exact ⟨rfl, rfl, h0, h1, rfl, Nat.le_refl _, rfl, rfl, fun x hx => (by cases hx), hz, fun r => rfl, fun z hz => (by cases hz)⟩
end Go.Jn
end
/- The journal in plain Lean: on a disk without worn sectors Open finds the journal that was kept; a torn record is whole or not there (Survives). No program. -/
section
namespace Go.Jn
open Go.Disk Go.Sha Go.Own
/-- a journal without failures on a disk without worn sectors -/
structure Inv2 (d : DS) (j : JS) (A B : List Sec) : Prop where
  inv : Inv d j A B
  nw : ∀ x ∈ d.s, x.w = false
  bad : j.bad = []
  nums : nums j = (List.range j.rs.length).map (· + 1)
  next : j.next = j.rs.length + 1
  good : ∀ x ∈ A, goodB (cont x) = true ∧ (unpack (cont x)).n < j.next
  most : j.next = 1 ∨ ∃ x ∈ A, (unpack (cont x)).n + 1 = j.next
theorem foldl_max (f : List UInt8 → Nat) : ∀ (l : List (List UInt8)) (m b : Nat), (∀ s ∈ l, f s ≤ b) → m ≤ b → (m = b ∨ ∃ s ∈ l, f s = b) → l.foldl (fun m s => max m (f s)) m = b
  | [], m, b, _, _, h => by
    rcases h with h | ⟨s, hs, _⟩
    · exact h
    · cases hs
  | s :: l, m, b, h1, h2, h3 => by
    rw [List.foldl_cons]
    have h4 := h1 s (List.mem_cons_self ..)
    refine foldl_max f l _ b (fun x hx => h1 x (List.mem_cons_of_mem _ hx)) (by omega) ?_
    rcases h3 with h | ⟨x, hx, e⟩
    · left; omega
    · rcases List.mem_cons.1 hx with rfl | hx
      · left; omega
      · exact .inr ⟨x, hx, e⟩
theorem fin_fold (g : Nat → Bool) : ∀ n m : Nat, m ≤ n → (∀ i, i < m → g i = false) → (∀ i, m ≤ i → i < n → g i = true) → (List.range n).foldl (fun a i => if g i then a else i + 1) 0 = m
  | 0, m, h, _, _ => by have : m = 0 := by omega
                        subst this; rfl
  | n + 1, m, h, h1, h2 => by
    rw [List.range_succ, List.foldl_append, List.foldl_cons, List.foldl_nil]
    by_cases hm : m ≤ n
    · rw [fin_fold g n m hm h1 (fun i a b => h2 i a (by omega)), h2 n hm (by omega)]; rfl
    · have : m = n + 1 := by omega
      subst this
      rw [h1 n (by omega)]; rfl
theorem good_blank {s : List UInt8} (h : goodB s = true) : blank s = false := by
  cases hb : blank s with
  | false => rfl
  | true => rw [blank_bad hb] at h; cases h
/-- Open finds the journal that was kept -/
theorem Inv2.fnd {d : DS} {j : JS} {A B : List Sec} (h : Inv2 d j A B) : found (d.s.map cont) = j := by
  have hi := h.inv
  have hrs := hi.found
  have hsec := hi.sec
  have hat : ∀ i (hlt : i < A.length), (d.s.map cont).getD i [] = cont A[i] := fun i hlt => by
    rw [List.getD_eq_getElem?_getD, hsec, List.map_append, List.getElem?_append_left (by rw [List.length_map]; exact hlt), List.getElem?_map, List.getElem?_eq_getElem hlt]; rfl
  have hbt : ∀ i (h1 : A.length ≤ i) (h2 : i < d.s.length), (d.s.map cont).getD i [] = Disk.zeros := fun i h1 h2 => by
    rw [hsec, List.length_append] at h2
    have h3 : i - A.length < B.length := by omega
    rw [List.getD_eq_getElem?_getD, hsec, List.map_append, List.getElem?_append_right (by rw [List.length_map]; exact h1), List.length_map, List.getElem?_map, List.getElem?_eq_getElem h3]
    obtain ⟨a, b⟩ := hi.zb B[i - A.length] (List.getElem_mem h3)
    show cont B[i - A.length] = _
    unfold cont; rw [b, a]; rfl
  have hz : blank Disk.zeros = true := by decide
  have hgA : ∀ i (hlt : i < A.length), goodB (cont A[i]) = true := fun i hlt => (h.good _ (List.getElem_mem hlt)).1
  have e2 : (found (d.s.map cont)).bad = [] := by
    unfold found
    dsimp only
    rw [List.filter_eq_nil_iff]
    intro i hi2
    rw [List.mem_range, List.length_map] at hi2
    by_cases hlt : i < A.length
    · rw [hat i hlt, unpack_ok, hgA i hlt]; simp
    · rw [hbt i (by omega) hi2, hz]; simp
  have e3 : (found (d.s.map cont)).next = j.next := by
    unfold found
    dsimp only
    refine foldl_max (fun s => (unpack s).n + 1) _ 1 j.next (fun s hs => ?_) hi.next ?_
    · obtain ⟨x, hx, rfl⟩ := List.mem_map.1 hs
      rw [hsec] at hx
      rcases List.mem_append.1 hx with hx | hx
      · exact (h.good x hx).2
      · obtain ⟨a, b⟩ := hi.zb x hx
        have : unpack (cont x) = prt0 := by unfold cont; rw [b, a]; unfold unpack; rw [Option.getD_none, blank_bad hz]; rfl
        rw [this]
        exact hi.next
    · rcases h.most with h1 | ⟨x, hx, e⟩
      · exact .inl h1.symm
      · exact .inr ⟨cont x, List.mem_map_of_mem (by rw [hsec]; exact List.mem_append_left _ hx), e⟩
  have e4 : (found (d.s.map cont)).fin = j.fin := by
    unfold found
    dsimp only
    rw [← hi.fin]
    refine fin_fold (fun i => blank ((d.s.map cont).getD i [])) _ A.length (by rw [List.length_map, hsec, List.length_append]; omega) (fun i hlt => ?_) (fun i h1 h2 => ?_)
    · rw [hat i hlt]; exact good_blank (hgA i hlt)
    · rw [hbt i h1 (by rw [List.length_map] at h2; exact h2)]; exact hz
  have e5 : (found (d.s.map cont)).closed = j.closed := hi.closed.symm
  cases hj : found (d.s.map cont) with
  | mk a b c e f =>
    rw [hj] at hrs e2 e3 e4 e5
    dsimp only at hrs e2 e3 e4 e5
    have hb := h.bad
    cases j
    dsimp only at *
    subst hrs e2 e3 e4 e5 hb
    rfl
theorem Inv2.dmg {d : DS} {j : JS} {A B : List Sec} (h : Inv2 d j A B) : damaged j = [] := by
  unfold damaged
  rw [h.nums, h.next, List.filter_eq_nil_iff]
  intro n hn
  rw [List.range_succ_eq_map, List.drop_one, List.tail_cons, List.mem_map] at hn
  obtain ⟨k, hk, rfl⟩ := hn
  have : ((List.range j.rs.length).map (· + 1)).contains (k + 1) = true := by
    rw [List.contains_iff_mem]; exact List.mem_map.2 ⟨k, hk, rfl⟩
  rw [show Nat.succ k = k + 1 from rfl, this]; decide
theorem Inv2.start {d : DS} (h0 : d.off = false) (h1 : d.left = -1) (hz : ∀ x ∈ d.s, x.t = Disk.zeros ∧ x.p = none) (hw : ∀ x ∈ d.s, x.w = false) : Inv2 d ⟨[], [], 1, 0, false⟩ [] d.s :=
  ⟨(Inv.start h0 h1 hz).2.2, hw, rfl, rfl, rfl, fun x hx => (by cases hx), .inl rfl⟩
end Go.Jn
end
/- The journal in plain Lean: a step on a disk without worn sectors; a torn record is whole or not there (Survives). No program. -/
section
namespace Go.Jn
open Go.Disk Go.Sha Go.Own
theorem aappend_step2 {d : DS} {j : JS} {A B : List Sec} (h : Inv2 d j A B) (t : List UInt8) : ∃ A' B', Inv2 (aappend d j t).2.2.2 (aappend d j t).2.2.1 A' B' ∧ Stp d j t A B A' B' := by
  obtain ⟨A', B', S⟩ := aappend_step h.inv t
  refine ⟨A', B', ?_, S⟩
  obtain ⟨n1, n2⟩ := S.nw h.nw
  rcases S.res with ⟨r1, r2, r3, r4⟩ | ⟨r1, r2, r3⟩
  · obtain ⟨T, rfl, hT, ht, hn⟩ := S.ext r1
    have hg : ∀ x ∈ T, goodB (cont x) = true ∧ (unpack (cont x)).n = j.next := fun x hx => by
      have hm : cont x ∈ T.map cont := List.mem_map_of_mem hx
      rw [hT] at hm
      unfold pack at hm
      obtain ⟨k, hk, e⟩ := List.mem_map.1 hm
      have hu := unpack_sect h.inv.next hn ht (List.mem_range.1 hk)
      rw [← e]
      exact ⟨by rw [← unpack_ok, hu], by rw [hu]⟩
    refine ⟨S.inv, n2, by rw [S.bad]; exact h.bad, ?_, ?_, fun x hx => ?_, .inr ?_⟩
    · unfold nums
      rw [r3, List.map_append, List.length_append, List.length_singleton, List.range_succ, List.map_append]
      have := h.nums
      unfold nums at this
      rw [this]
      congr 1
      show [j.next] = [j.rs.length + 1]
      rw [h.next]
    · rw [r4, r3, List.length_append, List.length_singleton, h.next]
    · rcases List.mem_append.1 hx with hx | hx
      · have := h.good x hx; rw [r4]; exact ⟨this.1, by omega⟩
      · have := hg x hx; rw [r4]; exact ⟨this.1, by omega⟩
    · have hne : T ≠ [] := fun e => by
        subst e
        have := pack_length j.next t
        rw [← hT] at this
        have h2 := (cntN_pos ht).1
        simp at this; omega
      obtain ⟨x, T', rfl⟩ := List.exists_cons_of_ne_nil hne
      exact ⟨x, List.mem_append_right _ (List.mem_cons_self ..), by rw [(hg x (List.mem_cons_self ..)).2, r4]⟩
  · rcases r1 with r1 | r1
    · exact absurd r1 n1
    · obtain ⟨s1, rfl, rfl⟩ := S.same r1
      rw [s1]; exact h
/-- every good sector is one of the records with these texts -/
def genB (img : List (List UInt8)) (ts : List (List UInt8)) : Bool := img.all fun s => !goodB s || (decide (numOf s ≤ ts.length) && (decide ((ts.getD (numOf s - 1) []).length ≤ 8000) && decide ((pack (numOf s) (ts.getD (numOf s - 1) []))[prtOf s]? = some s)))
/-- a torn sector of a new record that is good is whole -/
theorem torn_good {m i p : Nat} {x s : List UInt8} (hm : m ≤ 255) (hm1 : 1 ≤ m) (hx : x.length ≤ 8000) (hi : i < cntN x.length) (hs : s = (sect m x i).take p ++ Disk.zeros.drop p) (hp : p ≤ 64) (hg : goodB s = true)
    (hgen : numOf s = m → (pack m x)[prtOf s]? = some s) : s = sect m x i := by
  have hi2 := (cntN_pos hx).2
  have hl := sect_length m x i
  have hzd : ∀ j : Nat, ((Disk.zeros.drop p)[j]?).getD (0 : UInt8) = 0 := fun j => by
    rw [List.getElem?_drop]
    cases he : Disk.zeros[p + j]? with
    | none => rfl
    | some v =>
      have := List.mem_of_getElem? he
      unfold Disk.zeros at this
      rw [List.eq_of_mem_replicate this]; rfl
  have byte : ∀ j : Nat, (s[j]?).getD (0 : UInt8) = if j < p then ((sect m x i)[j]?).getD 0 else 0 := fun j => by
    rw [hs]
    by_cases hj : j < p
    · rw [if_pos hj, List.getElem?_append_left (by rw [List.length_take, hl]; omega), List.getElem?_take_of_lt hj]
    · rw [if_neg hj]
      by_cases h64 : j < 64
      · rw [List.getElem?_append_right (by rw [List.length_take, hl]; omega)]
        exact hzd _
      · rw [List.getElem?_append_right (by rw [List.length_take, hl]; omega)]
        exact hzd _
  have hhd : ∀ j : Nat, j < 56 → (sect m x i)[j]? = (head m i (x.drop (48 * i)))[j]? := fun j hj => by rw [← sect_head m x i, List.getElem?_take_of_lt hj]
  have b0 : (head m i (x.drop (48 * i)))[0]? = some (UInt8.ofNat m) := rfl
  have b1 : (head m i (x.drop (48 * i)))[1]? = some (UInt8.ofNat (m / 256)) := rfl
  have b2 : (head m i (x.drop (48 * i)))[2]? = some (UInt8.ofNat (m / 256 / 256)) := rfl
  have b3 : (head m i (x.drop (48 * i)))[3]? = some (UInt8.ofNat (m / 256 / 256 / 256)) := rfl
  have b4 : (head m i (x.drop (48 * i)))[4]? = some (UInt8.ofNat i) := rfl
  have b5 : (head m i (x.drop (48 * i)))[5]? = some (UInt8.ofNat (i / 256)) := rfl
  have hm0 : m / 256 = 0 := by omega
  have hi0 : i / 256 = 0 := by omega
  have h64 := (good_parts hg).1
  have num4 : numOf s = (s[0]?.getD 0).toNat + 256 * ((s[1]?.getD 0).toNat + 256 * ((s[2]?.getD 0).toNat + 256 * ((s[3]?.getD 0).toNat))) := by
    unfold numOf
    match s, h64 with
    | a :: b :: c :: d :: r, _ => simp [num]
  have num2 : prtOf s = (s[4]?.getD 0).toNat + 256 * (s[5]?.getD 0).toNat := by
    unfold prtOf
    match s, h64 with
    | a :: b :: c :: d :: e :: f :: r, _ => simp [num]
  have num6 : leftOf s = (s[6]?.getD 0).toNat + 256 * (s[7]?.getD 0).toNat := by
    unfold leftOf
    match s, h64 with
    | a :: b :: c :: d :: e :: f :: g :: h :: r, _ => simp [num]
  have z1 : (s[1]?.getD 0) = 0 := by rw [byte, hhd 1 (by omega), b1, hm0]; split <;> rfl
  have z2 : (s[2]?.getD 0) = 0 := by rw [byte, hhd 2 (by omega), b2, hm0]; split <;> rfl
  have z3 : (s[3]?.getD 0) = 0 := by rw [byte, hhd 3 (by omega), b3, hm0]; split <;> rfl
  have z5 : (s[5]?.getD 0) = 0 := by rw [byte, hhd 5 (by omega), b5, hi0]; split <;> rfl
  have y0 : (s[0]?.getD 0) = if 0 < p then UInt8.ofNat m else 0 := by rw [byte, hhd 0 (by omega), b0]; rfl
  have y4 : (s[4]?.getD 0) = if 4 < p then UInt8.ofNat i else 0 := by rw [byte, hhd 4 (by omega), b4]; rfl
  rw [z1, z2, z3, y0] at num4
  rw [z5, y4] at num2
  have hp0 : 0 < p := by
    rcases Nat.eq_zero_or_pos p with h | h
    · have := (good_parts hg).2.2.1
      rw [num4, h] at this
      simp at this
    · exact h
  rw [if_pos hp0] at num4
  have e1 : numOf s = m := by rw [num4, UInt8.toNat_ofNat']; simp; omega
  have hpk := hgen e1
  have hk : prtOf s < cntN x.length := by
    have := (List.getElem?_eq_some_iff.1 hpk).1
    rwa [pack_length] at this
  rw [pack_at hk] at hpk
  have hse : sect m x (prtOf s) = s := Option.some.inj hpk
  by_cases h4 : 4 < p
  · rw [if_pos h4] at num2
    have e2 : prtOf s = i := by rw [num2, UInt8.toNat_ofNat']; simp; omega
    rw [e2] at hse
    exact hse.symm
  · rw [if_neg h4] at num2
    have e2 : prtOf s = 0 := by rw [num2]; rfl
    have z6 : (s[6]?.getD 0) = 0 := by rw [byte, if_neg (by omega)]
    have z7 : (s[7]?.getD 0) = 0 := by rw [byte, if_neg (by omega)]
    rw [z6, z7] at num6
    have e6 : leftOf s = 0 := by rw [num6]; rfl
    have hu := unpack_sect (n := m) (t := x) (k := 0) hm1 (by omega) hx (by have := (cntN_pos hx).1; omega)
    rw [e2] at hse
    rw [hse] at hu
    have e7 : (unpack s).l = leftOf s := by unfold unpack; rw [if_pos hg]
    rw [hu] at e7
    dsimp only at e7
    have hx0 : x.length = 0 := by omega
    have hc1 : cntN x.length = 1 := by rw [hx0]; rfl
    have hi3 : i = 0 := by omega
    rw [hi3]; exact hse.symm
end Go.Jn
end
