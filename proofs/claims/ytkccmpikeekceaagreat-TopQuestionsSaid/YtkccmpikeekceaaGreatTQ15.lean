/- ev: how abstract memory stands to the model's: definitions, and laws of the tree. No program. -/
import Derived.Test.YtkccmpikeekceaaGreatTQ14
import Derived.Test.YtkccmpikeekceaaGreatTQ00
import Derived.Test.YtkccmpikeekceaaGreatTQ01
/- ev: how abstract memory stands to the model's: definitions, and laws of the tree. No program. -/
section
namespace Go.Ev
open Go.RowKit
section
variable {α : Type}
theorem brec {β : Type} (c : Bool) (a b : β) : (Bool.rec (motive := fun _ => β) a b c) = if c then b else a := by cases c <;> rfl
theorem Tr.get_e (k : Nat) : (Tr.e : Tr α).get k = none := rfl
theorem Tr.get_n (l : Tr α) (x : Option α) (r : Tr α) (k : Nat) : (Tr.n l x r).get k = if k = 0 then x else if k % 2 = 0 then l.get (k / 2 - 1) else r.get (k / 2) := by
  show (Bool.rec (motive := fun _ => Option α) (Bool.rec (motive := fun _ => Option α) (r.get (k / 2)) (l.get (k / 2 - 1)) (Nat.beq (k % 2) 0)) x (Nat.beq k 0)) = _
  rw [brec, brec]
  simp [Nat.beq_eq]
theorem Tr.up_eq (ih : Tr α → Nat → Option α → Tr α) (l : Tr α) (y : Option α) (r : Tr α) (k : Nat) (x : Option α) :
    Tr.up ih l y r k x = if k = 0 then .n l x r else if k % 2 = 0 then .n (ih l (k / 2 - 1) x) y r else .n l y (ih r (k / 2) x) := by
  show (Bool.rec (motive := fun _ => Tr α) (Bool.rec (motive := fun _ => Tr α) (.n l y (ih r (k / 2) x)) (.n (ih l (k / 2 - 1) x) y r) (Nat.beq (k % 2) 0)) (.n l x r) (Nat.beq k 0)) = _
  rw [brec, brec]
  simp [Nat.beq_eq]
theorem Tr.up_get {ih : Tr α → Nat → Option α → Tr α} (hi : ∀ t k x j v, (ih t k x).get j = some v → (j = k ∧ x = some v) ∨ (j ≠ k ∧ t.get j = some v))
    {l : Tr α} {y : Option α} {r : Tr α} {k : Nat} {x : Option α} {j : Nat} {v : α} (h : (Tr.up ih l y r k x).get j = some v) :
    (j = k ∧ x = some v) ∨ (j ≠ k ∧ (Tr.n l y r).get j = some v) := by
  rw [Tr.up_eq] at h
  by_cases hk : k = 0
  · rw [if_pos hk, Tr.get_n] at h
    by_cases hj : j = 0
    · rw [if_pos hj] at h; exact .inl ⟨by omega, h⟩
    · rw [if_neg hj] at h; exact .inr ⟨by omega, by rw [Tr.get_n, if_neg hj]; exact h⟩
  · rw [if_neg hk] at h
    by_cases hk2 : k % 2 = 0
    · rw [if_pos hk2, Tr.get_n] at h
      by_cases hj : j = 0
      · rw [if_pos hj] at h; exact .inr ⟨by omega, by rw [Tr.get_n, if_pos hj]; exact h⟩
      · rw [if_neg hj] at h
        by_cases hj2 : j % 2 = 0
        · rw [if_pos hj2] at h
          rcases hi _ _ _ _ _ h with ⟨h1, h2⟩ | ⟨h1, h2⟩
          · exact .inl ⟨by omega, h2⟩
          · exact .inr ⟨by omega, by rw [Tr.get_n, if_neg hj, if_pos hj2]; exact h2⟩
        · rw [if_neg hj2] at h
          exact .inr ⟨by omega, by rw [Tr.get_n, if_neg hj, if_neg hj2]; exact h⟩
    · rw [if_neg hk2, Tr.get_n] at h
      by_cases hj : j = 0
      · rw [if_pos hj] at h; exact .inr ⟨by omega, by rw [Tr.get_n, if_pos hj]; exact h⟩
      · rw [if_neg hj] at h
        by_cases hj2 : j % 2 = 0
        · rw [if_pos hj2] at h
          exact .inr ⟨by omega, by rw [Tr.get_n, if_neg hj, if_pos hj2]; exact h⟩
        · rw [if_neg hj2] at h
          rcases hi _ _ _ _ _ h with ⟨h1, h2⟩ | ⟨h1, h2⟩
          · exact .inl ⟨by omega, h2⟩
          · exact .inr ⟨by omega, by rw [Tr.get_n, if_neg hj, if_neg hj2]; exact h2⟩
/-- What a tree gives behind a change was there or is what was put in. -/
theorem Tr.get_set : ∀ (f : Nat) (t : Tr α) (k : Nat) (x : Option α) (j : Nat) (v : α), (Tr.set f t k x).get j = some v → (j = k ∧ x = some v) ∨ (j ≠ k ∧ t.get j = some v)
  | 0, t, k, x, j, v, h => by exact absurd h (by show (none : Option α) ≠ some v; simp)
  | f + 1, .e, k, x, j, v, h => by
    rcases Tr.up_get (fun t k x j v => Tr.get_set f t k x j v) (show (Tr.up (Tr.set f) .e none .e k x).get j = some v from h) with h | ⟨h1, h2⟩
    · exact .inl h
    · rw [Tr.get_n] at h2
      exfalso
      by_cases hj : j = 0
      · rw [if_pos hj] at h2; exact absurd h2 (by simp)
      · rw [if_neg hj] at h2
        by_cases hj2 : j % 2 = 0
        · rw [if_pos hj2] at h2; exact absurd h2 (by simp [Tr.get_e])
        · rw [if_neg hj2] at h2; exact absurd h2 (by simp [Tr.get_e])
  | f + 1, .n l y r, k, x, j, v, h => Tr.up_get (fun t k x j v => Tr.get_set f t k x j v) (show (Tr.up (Tr.set f) l y r k x).get j = some v from h)
end
/-- Two lists, entry by entry. -/
def All2 {α β : Type} (R : α → β → Prop) : List α → List β → Prop
  | [], [] => True
  | a :: l, b :: r => R a b ∧ All2 R l r
  | _, _ => False
theorem All2.mono {α β : Type} {R R' : α → β → Prop} : ∀ {l : List α} {r : List β}, (∀ a b, a ∈ l → R a b → R' a b) → All2 R l r → All2 R' l r
  | [], [], _, _ => trivial
  | a :: l, b :: r, h, h2 => ⟨h _ _ (by simp) h2.1, All2.mono (fun a b ha => h a b (by simp [ha])) h2.2⟩
  | [], _ :: _, _, h => h.elim
  | _ :: _, [], _, h => h.elim
theorem All2.length {α β : Type} {R : α → β → Prop} : ∀ {l : List α} {r : List β}, All2 R l r → l.length = r.length
  | [], [], _ => rfl
  | a :: l, b :: r, h => by simp [All2.length h.2]
  | [], _ :: _, h => h.elim
  | _ :: _, [], h => h.elim
theorem All2.get {α β : Type} {R : α → β → Prop} : ∀ {l : List α} {r : List β}, All2 R l r → ∀ {i : Nat} {a : α}, l[i]? = some a → ∃ b, r[i]? = some b ∧ R a b
  | [], [], _, i, a, h => by simp at h
  | a :: l, b :: r, h, 0, x, hx => ⟨b, rfl, by simp at hx; rw [← hx]; exact h.1⟩
  | a :: l, b :: r, h, i + 1, x, hx => by
    obtain ⟨y, h1, h2⟩ := All2.get h.2 (i := i) (a := x) (by simpa using hx)
    exact ⟨y, by simpa using h1, h2⟩
  | [], _ :: _, h, _, _, _ => h.elim
  | _ :: _, [], h, _, _, _ => h.elim
theorem All2.of_get {α β : Type} {R : α → β → Prop} : ∀ {l : List α} {r : List β}, l.length = r.length → (∀ (i : Nat) (a : α) (b : β), l[i]? = some a → r[i]? = some b → R a b) → All2 R l r
  | [], [], _, _ => trivial
  | a :: l, b :: r, h, h2 => ⟨h2 0 a b rfl rfl, All2.of_get (by simpa using h) fun i x y hx hy => h2 (i + 1) x y (by simpa using hx) (by simpa using hy)⟩
  | [], _ :: _, h, _ => by simp at h
  | _ :: _, [], h, _ => by simp at h
theorem All2.append {α β : Type} {R : α → β → Prop} : ∀ {l l' : List α} {r r' : List β}, All2 R l r → All2 R l' r' → All2 R (l ++ l') (r ++ r')
  | [], _, [], _, _, h => h
  | _a :: _l, _, _b :: _r, _, h, h2 => ⟨h.1, All2.append h.2 h2⟩
  | [], _, _ :: _, _, h, _ => h.elim
  | _ :: _, _, [], _, h, _ => h.elim
/-- Where the blocks lie; which blocks hold digits and are written no more. -/
structure Gh where
  m : Nat → Nat
  D : Nat → Prop
def bsz (w : World) (c : Nat) : Nat := match w.heap[c]? with
  | some (.cells cs _ _) => cs.size
  | _ => 0
/-- Digits in blocks of `D`. -/
def DgD (D : Nat → Prop) (w : World) (v : Value) (n : Nat) : Prop :=
  n < 1000000000 ∧ ((n = 0 ∧ v = .slice none 0 0) ∨ (0 < n ∧ ∃ c off cap, v = .slice (some ⟨c, off, none⟩) 1 cap ∧ 1 ≤ cap ∧ cap ≤ maxLen ∧ D c ∧ c < w.heap.size ∧ w.cell? ⟨c, off, none⟩ = some (.int .i64 n)))
def capV (g : Gh) (p : Nat × Nat) : Value := .pointer (some ⟨g.m p.1, p.2, none⟩)
def single : Value → Prop
  | .agg _ => False
  | .tuple _ => False
  | _ => True
/-- A cell. -/
def RC (g : Gh) (w : World) : C → Value → Prop
  | .i k n, v => v = .int k n
  | .b x, v => v = .bool x
  | .ns, v => v = .slice none 0 0
  | .dig n, v => DgD g.D w v n
  | .dptr n, v => ∃ c off, v = .pointer (some ⟨c, off, none⟩) ∧ g.D c ∧ c < w.heap.size ∧ w.cell? ⟨c, off, none⟩ = some (.int .i64 n)
  | .ptr b off, v => v = .pointer (some ⟨g.m b, off, none⟩)
  | .sl b off len cap u, v => ∃ cap', (len ≤ cap' ∧ cap ≤ cap') ∧ cap' ≤ maxLen ∧ off + cap' * u ≤ bsz w (g.m b) ∧ v = .slice (some ⟨g.m b, off, none⟩) len cap'
  | .fn f caps, v => v = .func (.func f) #[] (caps.map (capV g)).toArray
  | .v x, v => v = x ∧ single x
def RV1 (g : Gh) (w : World) : V → Value → Prop
  | .c x, v => RC g w x v
  | .agg l, v => ∃ cs : List Value, v = .agg cs.toArray ∧ All2 (RC g w) l cs
def RA (g : Gh) (w : World) : A → Value → Prop
  | .v x, v => RV1 g w x v
  | .tup l, v => ∃ vs : List Value, v = .tuple vs.toArray ∧ All2 (RV1 g w) l vs
/-- Names are below `n`. -/
def C.lt (n : Nat) : C → Prop
  | .ptr k _ => k < n
  | .sl k _ _ _ _ => k < n
  | .fn _ caps => ∀ p ∈ caps, p.1 < n
  | _ => True
def V.lt (n : Nat) : V → Prop
  | .c x => x.lt n
  | .agg l => ∀ x ∈ l, x.lt n
def A.lt (n : Nat) : A → Prop
  | .v x => x.lt n
  | .tup l => ∀ x ∈ l, x.lt n
abbrev Mem := Nat → Option (List C)
/-- Abstract memory `K` and the world. -/
structure Sim (K : Mem) (g : Gh) (nx : Nat) (w : World) : Prop where
  blk : ∀ b l, K b = some l → b < nx ∧ (∀ x ∈ l, x.lt nx) ∧ ¬ g.D (g.m b) ∧ ∃ cs t, w.heap[g.m b]? = some (.cells cs t (0, 0)) ∧ l.length ≤ cs.size ∧ ∀ (i : Nat) (x : C), l[i]? = some x → ∃ v, cs[i]? = some v ∧ RC g w x v
  inj : ∀ b b', K b ≠ none → K b' ≠ none → g.m b = g.m b' → b = b'
  dsz : ∀ c, g.D c → c < w.heap.size
/-- What a piece of code does; `W`: the names that it turned. -/
structure Step (W : Nat → Prop) (K : Mem) (g : Gh) (nx : Nat) (w : World) (K' : Mem) (g' : Gh) (nx' : Nat) (w' : World) : Prop where
  sim : Sim K' g' nx' w'
  mono : nx ≤ nx'
  agree : ∀ b, b < nx → g'.m b = g.m b
  dig : ∀ c, g.D c → g'.D c
  dnew : ∀ c, g'.D c → g.D c ∨ w.heap.size ≤ c
  frame : ∀ c, c < w.heap.size → (∀ b, W b → K b ≠ none → g.m b ≠ c) → w'.heap[c]? = w.heap[c]?
  img : ∀ b, nx ≤ b → K' b ≠ none → (∃ b0, W b0 ∧ K b0 ≠ none ∧ g.m b0 = g'.m b) ∨ w.heap.size ≤ g'.m b
  live : ∀ b, b < nx → K' b ≠ none → K b ≠ none
  bs : ∀ c, bsz w c ≤ bsz w' c
  size : w.heap.size ≤ w'.heap.size
  os : w'.os = w.os
  tape : w'.tape = w.tape
  output : w'.output = w.output
theorem lt_mono {n n' : Nat} (h : n ≤ n') : ∀ {x : C}, x.lt n → x.lt n' := by
  intro x hx
  cases x <;> simp only [C.lt] at hx ⊢ <;> first | omega | (intro p hp; have := hx p hp; omega)
theorem vlt_mono {n n' : Nat} (h : n ≤ n') {x : V} (hx : x.lt n) : x.lt n' := by
  cases x with
  | c x => exact lt_mono h hx
  | agg l => exact fun y hy => lt_mono h (hx y hy)
theorem alt_mono {n n' : Nat} (h : n ≤ n') {x : A} (hx : x.lt n) : x.lt n' := by
  cases x with
  | v x => exact vlt_mono h hx
  | tup l => exact fun y hy => vlt_mono h (hx y hy)
section
variable {W W' : Nat → Prop} {K K' K'' : Mem} {g g' g'' : Gh} {nx nx' nx'' : Nat} {w w' w'' : World}
theorem Sim.rfl_step (W : Nat → Prop) (h : Sim K g nx w) : Step W K g nx w K g nx w where
  sim := h
  mono := Nat.le_refl _
  agree := fun _ _ => rfl
  dig := fun _ h => h
  dnew := fun _ h => .inl h
  frame := fun _ _ _ => rfl
  img := fun b hb hk => by
    cases e : K b with
    | none => exact absurd e hk
    | some l => have := (h.blk b l e).1; omega
  live := fun _ _ h => h
  bs := fun _ => Nat.le_refl _
  size := Nat.le_refl _
  os := rfl
  tape := rfl
  output := rfl
/-- A digit's block is as it was. -/
theorem Step.keepD (h : Step W K g nx w K' g' nx' w') (hs : Sim K g nx w) {c : Nat} (hc : g.D c) : w'.heap[c]? = w.heap[c]? :=
  h.frame c (hs.dsz c hc) fun b _ hb e => by
    cases hk : K b with
    | none => exact hb hk
    | some l => have := (hs.blk b l hk).2.2.1; rw [e] at this; exact this hc
theorem Step.rc (h : Step W K g nx w K' g' nx' w') (hs : Sim K g nx w) {x : C} {v : Value} (hx : x.lt nx) (hr : RC g w x v) : RC g' w' x v := by
  cases x with
  | i k n => exact hr
  | b x => exact hr
  | ns => exact hr
  | v x => exact hr
  | dig n =>
    obtain ⟨h1, h2 | ⟨h2, c, off, cap, h3, h4, h5, h6, h7, h8⟩⟩ := hr
    · exact ⟨h1, .inl h2⟩
    · exact ⟨h1, .inr ⟨h2, c, off, cap, h3, h4, h5, h.dig c h6, Nat.lt_of_lt_of_le h7 h.size, by rw [World.cell?_of_block (h.keepD hs h6)]; exact h8⟩⟩
  | dptr n =>
    obtain ⟨c, off, h3, h6, h7, h8⟩ := hr
    exact ⟨c, off, h3, h.dig c h6, Nat.lt_of_lt_of_le h7 h.size, by rw [World.cell?_of_block (h.keepD hs h6)]; exact h8⟩
  | ptr b off =>
    simp only [RC] at hr ⊢
    rw [h.agree b hx]; exact hr
  | sl b off len cap u =>
    obtain ⟨c, h1, h2, h3, h4⟩ := hr
    refine ⟨c, h1, h2, ?_, ?_⟩
    · rw [h.agree b hx]; exact Nat.le_trans h3 (h.bs _)
    · rw [h.agree b hx]; exact h4
  | fn f caps =>
    simp only [RC] at hr ⊢
    rw [hr]
    congr 2
    refine List.map_congr_left fun p hp => ?_
    simp only [capV]
    rw [h.agree p.1 (hx p hp)]
theorem Step.rv (h : Step W K g nx w K' g' nx' w') (hs : Sim K g nx w) {x : V} {v : Value} (hx : x.lt nx) (hr : RV1 g w x v) : RV1 g' w' x v := by
  cases x with
  | c x => exact h.rc hs hx hr
  | agg l =>
    obtain ⟨cs, h1, h2⟩ := hr
    exact ⟨cs, h1, h2.mono fun a b ha => h.rc hs (hx a ha)⟩
theorem Step.ra (h : Step W K g nx w K' g' nx' w') (hs : Sim K g nx w) {x : A} {v : Value} (hx : x.lt nx) (hr : RA g w x v) : RA g' w' x v := by
  cases x with
  | v x => exact h.rv hs hx hr
  | tup l =>
    obtain ⟨cs, h1, h2⟩ := hr
    exact ⟨cs, h1, h2.mono fun a b ha => h.rv hs (hx a ha)⟩
theorem Step.trans (h : Step W K g nx w K' g' nx' w') (_hs : Sim K g nx w) (h2 : Step W' K' g' nx' w' K'' g'' nx'' w'') (hW : ∀ b, W b → W' b) : Step W' K g nx w K'' g'' nx'' w'' where
  sim := h2.sim
  mono := Nat.le_trans h.mono h2.mono
  agree := fun b hb => (h2.agree b (Nat.lt_of_lt_of_le hb h.mono)).trans (h.agree b hb)
  dig := fun c hc => h2.dig c (h.dig c hc)
  dnew := fun c hc => by
    rcases h2.dnew c hc with h3 | h3
    · exact h.dnew c h3
    · exact .inr (Nat.le_trans h.size h3)
  frame := fun c hc hb => by
    refine (h2.frame c (Nat.lt_of_lt_of_le hc h.size) fun b hw hb2 e => ?_).trans (h.frame c hc fun b hw => hb b (hW b hw))
    rcases Nat.lt_or_ge b nx with hn | hn
    · exact hb b hw (h.live b hn hb2) ((h.agree b hn).symm.trans e)
    · rcases h.img b hn hb2 with ⟨b0, h0, h3, h4⟩ | h3
      · exact hb b0 (hW b0 h0) h3 (h4.trans e)
      · omega
  img := fun b hn hb => by
    rcases Nat.lt_or_ge b nx' with hn2 | hn2
    · rw [h2.agree b hn2]
      rcases h.img b hn (h2.live b hn2 hb) with ⟨b0, h0, h3, h4⟩ | h3
      · exact .inl ⟨b0, hW b0 h0, h3, h4⟩
      · exact .inr h3
    · rcases h2.img b hn2 hb with ⟨b0, h0, h3, h4⟩ | h3
      · rcases Nat.lt_or_ge b0 nx with hn3 | hn3
        · exact .inl ⟨b0, h0, h.live b0 hn3 h3, (h.agree b0 hn3).symm.trans h4⟩
        · rcases h.img b0 hn3 h3 with ⟨b1, h5, h6, h7⟩ | h5
          · exact .inl ⟨b1, hW b1 h5, h6, h7.trans h4⟩
          · exact .inr (by rw [← h4]; exact h5)
      · exact .inr (Nat.le_trans h.size h3)
  live := fun b hb hk => h.live b hb (h2.live b (Nat.lt_of_lt_of_le hb h.mono) hk)
  bs := fun c => Nat.le_trans (h.bs c) (h2.bs c)
  size := Nat.le_trans h.size h2.size
  os := h2.os.trans h.os
  tape := h2.tape.trans h.tape
  output := h2.output.trans h.output
theorem Step.weak (h : Step W K g nx w K' g' nx' w') (hW : ∀ b, W b → W' b) : Step W' K g nx w K' g' nx' w' :=
  { h with
    frame := fun c hc hb => h.frame c hc fun b hw => hb b (hW b hw)
    img := fun b hn hb => by
      rcases h.img b hn hb with ⟨b0, h0, h3⟩ | h3
      · exact .inl ⟨b0, hW b0 h0, h3⟩
      · exact .inr h3 }
end
end Go.Ev
end
/- ev: the small changes of memory. No program. -/
section
namespace Go.Ev
open Go.RowKit
section
variable {W W' : Nat → Prop} {K K' K'' : Mem} {g g' g'' : Gh} {nx nx' nx'' : Nat} {w w' w'' : World}
theorem bsz_alloc (w : World) (o : Obj) (c : Nat) : bsz w c ≤ bsz (w.alloc o) c := by
  unfold bsz
  rcases Nat.lt_or_ge c w.heap.size with h | h
  · rw [Below.heap_alloc w o c h]; exact Nat.le_refl _
  · rw [Array.getElem?_eq_none h]; exact Nat.zero_le _
/-- A block may go. -/
theorem Sim.less (h : Sim K g nx w) (hK : ∀ b x, K' b = some x → K b = some x) : Sim K' g nx w where
  blk := fun b l hb => h.blk b l (hK b l hb)
  inj := fun b b' hb hb' e => h.inj b b' (by cases e1 : K' b with | none => exact absurd e1 hb | some l => rw [hK b l e1]; simp) (by cases e1 : K' b' with | none => exact absurd e1 hb' | some l => rw [hK b' l e1]; simp) e
  dsz := h.dsz
theorem Sim.less_step (h : Sim K g nx w) (hK : ∀ b x, K' b = some x → K b = some x) : Step W K g nx w K' g nx w where
  sim := h.less hK
  mono := Nat.le_refl _
  agree := fun _ _ => rfl
  dig := fun _ h => h
  dnew := fun _ h => .inl h
  frame := fun _ _ _ => rfl
  img := fun b hb hk => by
    cases e : K' b with
    | none => exact absurd e hk
    | some l => have := (h.blk b l (hK b l e)).1; omega
  live := fun b _ hk => by
    cases e : K' b with
    | none => exact absurd e hk
    | some l => rw [hK b l e]; simp
  bs := fun _ => Nat.le_refl _
  size := Nat.le_refl _
  os := rfl
  tape := rfl
  output := rfl
/-- A new block. -/
def Gh.new (g : Gh) (nx : Nat) (w : World) : Gh := { m := fun b => if b = nx then w.heap.size else g.m b, D := g.D }
theorem Sim.new_step (h : Sim K g nx w) {l : List C} {cs : Array Value} {t : TypeId} (hl : ∀ x ∈ l, x.lt nx) (hc : l.length ≤ cs.size)
    (hr : ∀ (i : Nat) (x : C), l[i]? = some x → ∃ v, cs[i]? = some v ∧ RC g w x v)
    (hK : ∀ b x, K' b = some x → (b = nx ∧ x = l) ∨ (b ≠ nx ∧ K b = some x)) : Step W K g nx w K' (g.new nx w) (nx + 1) (w.alloc (.cells cs t)) := by
  have hm : ∀ b, b < nx → (g.new nx w).m b = g.m b := fun b hb => by simp only [Gh.new]; rw [if_neg (by omega)]
  have hn : (g.new nx w).m nx = w.heap.size := by simp [Gh.new]
  have hz : (w.alloc (.cells cs t)).heap.size = w.heap.size + 1 := by simp
  have hb : ∀ c, c < w.heap.size → (w.alloc (.cells cs t)).heap[c]? = w.heap[c]? := fun c hc => Below.heap_alloc _ _ _ hc
  have hcell : ∀ (p : Addr), p.block < w.heap.size → (w.alloc (.cells cs t)).cell? p = w.cell? p := fun p hp => World.cell?_of_block (hb _ hp)
  have hbl : ∀ b x, K b = some x → g.m b < w.heap.size := fun b x hx => by
    obtain ⟨_, _, _, cs', t', e, _⟩ := h.blk b x hx
    rcases Nat.lt_or_ge (g.m b) w.heap.size with h2 | h2
    · exact h2
    · rw [Array.getElem?_eq_none h2] at e; cases e
  -- cells stay
  have hrc : ∀ x v, C.lt nx x → RC g w x v → RC (g.new nx w) (w.alloc (.cells cs t)) x v := by
    intro x v hx hr
    cases x with
    | i k n => exact hr
    | b x => exact hr
    | ns => exact hr
    | v x => exact hr
    | dig n =>
      obtain ⟨h1, h2 | ⟨h2, c, off, cap, h3, h4, h5, h6, h7, h8⟩⟩ := hr
      · exact ⟨h1, .inl h2⟩
      · exact ⟨h1, .inr ⟨h2, c, off, cap, h3, h4, h5, h6, by omega, by rw [hcell _ h7]; exact h8⟩⟩
    | dptr n =>
      obtain ⟨c, off, h3, h6, h7, h8⟩ := hr
      exact ⟨c, off, h3, h6, by omega, by rw [hcell _ h7]; exact h8⟩
    | ptr b off =>
      simp only [RC] at hr ⊢
      rw [hm b hx]; exact hr
    | sl b off len cap u =>
      obtain ⟨c, h1, h2, h3, h4⟩ := hr
      refine ⟨c, h1, h2, ?_, ?_⟩
      · rw [hm b hx]; exact Nat.le_trans h3 (bsz_alloc _ _ _)
      · rw [hm b hx]; exact h4
    | fn f caps =>
      simp only [RC] at hr ⊢
      rw [hr]
      congr 2
      refine List.map_congr_left fun p hp => ?_
      simp only [capV]
      rw [hm p.1 (hx p hp)]
  refine { sim := ⟨?_, ?_, ?_⟩, mono := by omega, agree := hm, dig := fun _ h => h, dnew := fun _ h => .inl h, frame := fun c hc _ => hb c hc, img := ?_, live := ?_, bs := fun c => bsz_alloc _ _ _, size := by omega, os := rfl, tape := rfl, output := rfl }
  · intro b x hx
    rcases hK b x hx with ⟨rfl, rfl⟩ | ⟨hne, hx⟩
    · refine ⟨by omega, fun y hy => lt_mono (by omega) (hl y hy), ?_, cs, t, ?_, hc, ?_⟩
      · rw [hn]
        intro hd
        have := h.dsz _ hd
        omega
      · rw [hn]; show (w.heap.push _)[w.heap.size]? = _; simp
      · intro i y hy
        obtain ⟨v, h1, h2⟩ := hr i y hy
        exact ⟨v, h1, hrc y v (hl y (List.mem_of_getElem? hy)) h2⟩
    · obtain ⟨h1, h2, h3, cs', t', h4, h5, h6⟩ := h.blk b x hx
      have hlt := hbl b x hx
      refine ⟨by omega, fun y hy => lt_mono (by omega) (h2 y hy), by rw [hm b h1]; exact h3, cs', t', by rw [hm b h1, hb _ hlt]; exact h4, h5, ?_⟩
      intro i y hy
      obtain ⟨v, h7, h8⟩ := h6 i y hy
      exact ⟨v, h7, hrc y v (h2 y (List.mem_of_getElem? hy)) h8⟩
  · intro b b' hb1 hb2 e
    cases e1 : K' b with
    | none => exact absurd e1 hb1
    | some x => cases e2 : K' b' with
      | none => exact absurd e2 hb2
      | some y =>
        rcases hK b x e1 with ⟨rfl, rfl⟩ | ⟨hne, hx⟩
        · rcases hK b' y e2 with ⟨rfl, rfl⟩ | ⟨hne2, hy⟩
          · rfl
          · exfalso; rw [hn, hm b' (h.blk b' y hy).1] at e; have := hbl b' y hy; omega
        · rcases hK b' y e2 with ⟨rfl, rfl⟩ | ⟨hne2, hy⟩
          · exfalso; rw [hn, hm b (h.blk b x hx).1] at e; have := hbl b x hx; omega
          · rw [hm b (h.blk b x hx).1, hm b' (h.blk b' y hy).1] at e
            exact h.inj b b' (by rw [hx]; simp) (by rw [hy]; simp) e
  · intro c hc; have := h.dsz c hc; omega
  · intro b hbn hk
    cases e1 : K' b with
    | none => exact absurd e1 hk
    | some x =>
      rcases hK b x e1 with ⟨rfl, rfl⟩ | ⟨hne, hx⟩
      · exact .inr (by rw [hn]; exact Nat.le_refl _)
      · have := (h.blk b x hx).1; omega
  · intro b hbn hk
    cases e1 : K' b with
    | none => exact absurd e1 hk
    | some x =>
      rcases hK b x e1 with ⟨rfl, rfl⟩ | ⟨hne, hx⟩
      · omega
      · rw [hx]; simp
/-- A block is written. -/
theorem Sim.put_step (h : Sim K g nx w) {b : Nat} {l l' : List C} {cs cs' : Array Value} {t t' : TypeId} (hb : K b = some l) (hc : w.heap[g.m b]? = some (.cells cs t (0, 0))) (hW : W b)
    (hc' : w'.heap[g.m b]? = some (.cells cs' t' (0, 0))) (ho : Own.Oth (g.m b) w w') (hz : cs.size ≤ cs'.size) (hl : ∀ x ∈ l', x.lt nx) (hlen : l'.length ≤ cs'.size)
    (hr : ∀ (i : Nat) (x : C), l'[i]? = some x → ∃ v, cs'[i]? = some v ∧ RC g w x v)
    (hK : ∀ b' x, K' b' = some x → (b' = b ∧ x = l') ∨ (b' ≠ b ∧ K b' = some x)) : Step W K g nx w K' g nx w' := by
  have hDb := (h.blk b l hb).2.2.1
  have hbs : ∀ c, bsz w c ≤ bsz w' c := by
    intro c
    unfold bsz
    by_cases e : c = g.m b
    · subst e; rw [hc, hc']; exact hz
    · rw [ho.block c e]; exact Nat.le_refl _
  have hcell : ∀ c off, g.D c → w'.cell? ⟨c, off, none⟩ = w.cell? ⟨c, off, none⟩ := fun c off hd => World.cell?_of_block (ho.block c (fun e => hDb (e ▸ hd)))
  have hrc : ∀ x v, RC g w x v → RC g w' x v := by
    intro x v hr
    cases x with
    | i k n => exact hr
    | b x => exact hr
    | ns => exact hr
    | v x => exact hr
    | dig n =>
      obtain ⟨h1, h2 | ⟨h2, c, off, cap, h3, h4, h5, h6, h7, h8⟩⟩ := hr
      · exact ⟨h1, .inl h2⟩
      · exact ⟨h1, .inr ⟨h2, c, off, cap, h3, h4, h5, h6, by rw [ho.size]; exact h7, by rw [hcell _ _ h6]; exact h8⟩⟩
    | dptr n =>
      obtain ⟨c, off, h3, h6, h7, h8⟩ := hr
      exact ⟨c, off, h3, h6, by rw [ho.size]; exact h7, by rw [hcell _ _ h6]; exact h8⟩
    | ptr b off => exact hr
    | sl b off len cap u =>
      obtain ⟨c, h1, h2, h3, h4⟩ := hr
      exact ⟨c, h1, h2, Nat.le_trans h3 (hbs _), h4⟩
    | fn f caps => exact hr
  have hsome : ∀ b', K' b' ≠ none → K b' ≠ none := by
    intro b' hk
    cases e1 : K' b' with
    | none => exact absurd e1 hk
    | some x =>
      rcases hK b' x e1 with ⟨rfl, rfl⟩ | ⟨_, hx⟩
      · rw [hb]; simp
      · rw [hx]; simp
  refine { sim := ⟨?_, ?_, ?_⟩, mono := Nat.le_refl _, agree := fun _ _ => rfl, dig := fun _ h => h, dnew := fun _ h => .inl h, frame := fun c _ hf => ho.block c (fun e => hf b hW (by rw [hb]; simp) e.symm), img := ?_, live := fun b' _ hk => hsome b' hk, bs := hbs, size := by rw [ho.size]; exact Nat.le_refl _, os := ho.os, tape := ho.tape, output := ho.output }
  · intro b' x hx
    rcases hK b' x hx with ⟨rfl, rfl⟩ | ⟨hne, hx⟩
    · refine ⟨(h.blk _ _ hb).1, hl, hDb, cs', t', hc', hlen, ?_⟩
      intro i y hy
      obtain ⟨v, h1, h2⟩ := hr i y hy
      exact ⟨v, h1, hrc y v h2⟩
    · obtain ⟨h1, h2, h3, cs2, t2, h4, h5, h6⟩ := h.blk b' x hx
      have hmne : g.m b' ≠ g.m b := fun e => hne (h.inj b' b (by rw [hx]; simp) (by rw [hb]; simp) e)
      refine ⟨h1, h2, h3, cs2, t2, by rw [ho.block _ hmne]; exact h4, h5, ?_⟩
      intro i y hy
      obtain ⟨v, h7, h8⟩ := h6 i y hy
      exact ⟨v, h7, hrc y v h8⟩
  · exact fun b1 b2 h1 h2 e => h.inj b1 b2 (hsome b1 h1) (hsome b2 h2) e
  · intro c hc2; rw [ho.size]; exact h.dsz c hc2
  · intro b' hn hk
    exfalso
    have := hsome b' hk
    cases e1 : K b' with
    | none => exact this e1
    | some x => have := (h.blk b' x e1).1; omega
/-- What a piece made is let go: nothing that was there was turned. Its blocks may hold digits from now on. -/
def Gh.gone (g g' : Gh) (w w' : World) : Gh := { m := g.m, D := fun c => g.D c ∨ g'.D c ∨ (w.heap.size ≤ c ∧ c < w'.heap.size) }
theorem Sim.gone_step (hs : Sim K g nx w) (hd : ∀ c, g'.D c → g.D c ∨ (w.heap.size ≤ c ∧ c < w'.heap.size)) (hh : ∀ c, c < w.heap.size → w'.heap[c]? = w.heap[c]?) (hz : w.heap.size ≤ w'.heap.size)
    (hos : w'.os = w.os) (htape : w'.tape = w.tape) (hout : w'.output = w.output) : Step W' K g nx w K (g.gone g' w w') nx w' := by
  have hbl : ∀ b x, K b = some x → g.m b < w.heap.size := fun b x hx => by
    obtain ⟨_, _, _, cs', t', e, _⟩ := hs.blk b x hx
    rcases Nat.lt_or_ge (g.m b) w.heap.size with h2 | h2
    · exact h2
    · rw [Array.getElem?_eq_none h2] at e; cases e
  have hbs : ∀ c, bsz w c ≤ bsz w' c := by
    intro c
    unfold bsz
    rcases Nat.lt_or_ge c w.heap.size with h | h
    · rw [hh c h]; exact Nat.le_refl _
    · rw [Array.getElem?_eq_none h]; exact Nat.zero_le _
  have hnd : ∀ c, c < w.heap.size → (g.gone g' w w').D c → g.D c := by
    intro c hc hd2
    rcases hd2 with h | h | h
    · exact h
    · rcases hd c h with h | h
      · exact h
      · omega
    · omega
  have hrc : ∀ x v, RC g w x v → RC (g.gone g' w w') w' x v := by
    intro x v hr
    cases x with
    | i k n => exact hr
    | b x => exact hr
    | ns => exact hr
    | v x => exact hr
    | dig n =>
      obtain ⟨h1, h2 | ⟨h2, c, off, cap, h3, h4, h5, h6, h7, h8⟩⟩ := hr
      · exact ⟨h1, .inl h2⟩
      · exact ⟨h1, .inr ⟨h2, c, off, cap, h3, h4, h5, .inl h6, by omega, by rw [World.cell?_of_block (hh c h7)]; exact h8⟩⟩
    | dptr n =>
      obtain ⟨c, off, h3, h6, h7, h8⟩ := hr
      exact ⟨c, off, h3, .inl h6, by omega, by rw [World.cell?_of_block (hh c h7)]; exact h8⟩
    | ptr b off => exact hr
    | sl b off len cap u =>
      obtain ⟨c, h1, h2, h3, h4⟩ := hr
      exact ⟨c, h1, h2, Nat.le_trans h3 (hbs _), h4⟩
    | fn f caps => exact hr
  refine { sim := ⟨?_, hs.inj, ?_⟩, mono := Nat.le_refl _, agree := fun _ _ => rfl, dig := fun _ h => .inl h, dnew := ?_, frame := fun c hc _ => hh c hc, img := ?_, live := fun _ _ h => h, bs := hbs, size := hz, os := hos, tape := htape, output := hout }
  · intro b x hx
    obtain ⟨h1, h2, h3, cs2, t2, h4, h5, h6⟩ := hs.blk b x hx
    refine ⟨h1, h2, fun h => h3 (hnd _ (hbl b x hx) h), cs2, t2, by show w'.heap[g.m b]? = _; rw [hh _ (hbl b x hx)]; exact h4, h5, ?_⟩
    intro i y hy
    obtain ⟨v, h7, h8⟩ := h6 i y hy
    exact ⟨v, h7, hrc y v h8⟩
  · intro c hc
    rcases hc with h | h | h
    · have := hs.dsz c h; omega
    · rcases hd c h with h | h
      · have := hs.dsz c h; omega
      · exact h.2
    · exact h.2
  · intro c hc
    rcases hc with h | h | h
    · exact .inl h
    · rcases hd c h with h | h
      · exact .inl h
      · exact .inr h.1
    · exact .inr h.1
  · intro b hb hk
    exfalso
    cases e : K b with
    | none => exact hk e
    | some l => have := (hs.blk b l e).1; omega
/-- A cell's value is of one cell. -/
theorem rc_one {x : C} {v : Value} (h : RC g w x v) : v.oneCell' = true := by
  cases x with
  | i k n => simp only [RC] at h; subst h; rfl
  | b x => simp only [RC] at h; subst h; rfl
  | ns => simp only [RC] at h; subst h; rfl
  | v x => obtain ⟨rfl, h⟩ := h; cases v <;> first | rfl | exact h.elim
  | dig n =>
    obtain ⟨h1, ⟨_, rfl⟩ | ⟨h2, c, off, cap, rfl, _⟩⟩ := h <;> rfl
  | dptr n => obtain ⟨c, off, rfl, _⟩ := h; rfl
  | ptr b off => simp only [RC] at h; subst h; rfl
  | sl b off len cap u => obtain ⟨c, _, _, _, rfl⟩ := h; rfl
  | fn f caps => simp only [RC] at h; subst h; rfl
theorem all_one {l : List C} {vs : List Value} (h : All2 (RC g w) l vs) : ∀ v ∈ vs, v.oneCell' = true := by
  intro v hv
  obtain ⟨i, hi, e⟩ := List.getElem_of_mem hv
  have hl := h.length
  obtain ⟨u, h1, h2⟩ := h.get (i := i) (a := l[i]) (by simp [hl, hi])
  have : u = v := by rw [← e]; simpa [hi] using h1.symm
  exact this ▸ rc_one h2
theorem setAt_length {α : Type} {l : List α} {off : Nat} {cs : List α} (h : off + cs.length ≤ l.length) : (setAt l off cs).length = l.length := by
  unfold setAt; simp; omega
theorem mem_setAt {α : Type} {l : List α} {off : Nat} {cs : List α} {x : α} (h : x ∈ setAt l off cs) : x ∈ l ∨ x ∈ cs := by
  unfold setAt at h
  rcases List.mem_append.1 h with h | h
  · exact .inl (List.mem_of_mem_take h)
  · rcases List.mem_append.1 h with h | h
    · exact .inr h
    · exact .inl (List.mem_of_mem_drop h)
/-- Cells ahead of a longer row. -/
theorem pre_setAt {R : C → Value → Prop} {l xs : List C} {cs vs : List Value} {off : Nat} (h : ∀ (i : Nat) (x : C), l[i]? = some x → ∃ v, cs[i]? = some v ∧ R x v) (hx : All2 R xs vs) (hf : off + xs.length ≤ l.length) (hlc : l.length ≤ cs.length) :
    ∀ (i : Nat) (x : C), (setAt l off xs)[i]? = some x → ∃ v, (cs.take off ++ vs ++ cs.drop (off + vs.length))[i]? = some v ∧ R x v := by
  intro i x hi
  have hlen := hx.length
  unfold setAt at hi
  rw [List.append_assoc]
  rcases Nat.lt_or_ge i off with h1 | h1
  · rw [List.getElem?_append_left (by simp; omega), List.getElem?_take_of_lt h1] at hi
    rw [List.getElem?_append_left (by simp; omega), List.getElem?_take_of_lt h1]
    exact h i x hi
  · have e1 : (l.take off).length = off := by simp; omega
    have e2 : (cs.take off).length = off := by simp; omega
    rw [List.getElem?_append_right (by omega), e1] at hi
    rw [List.getElem?_append_right (by omega), e2]
    rcases Nat.lt_or_ge (i - off) xs.length with h2 | h2
    · rw [List.getElem?_append_left h2] at hi
      rw [List.getElem?_append_left (by omega)]
      exact hx.get hi
    · rw [List.getElem?_append_right h2, List.getElem?_drop] at hi
      rw [List.getElem?_append_right (by omega), List.getElem?_drop]
      have e3 : off + xs.length + (i - off - xs.length) = i := by omega
      rw [e3] at hi
      rw [show off + vs.length + (i - off - vs.length) = i by omega]
      exact h i x hi
end
end Go.Ev
end
/- ev: operations that look at no memory. No program. -/
section
namespace Go.Ev
open Go.RowKit Go.Own
theorem ofV_rel {g : Gh} {w : World} {v : Value} {x : C} (h : C.ofV v = some x) : RC g w x v ∧ ∀ n, x.lt n := by
  unfold C.ofV at h
  split at h
  · injection h with h; subst h; exact ⟨rfl, fun _ => trivial⟩
  · injection h with h; subst h; exact ⟨rfl, fun _ => trivial⟩
  · injection h with h; subst h; exact ⟨rfl, fun _ => trivial⟩
  · split at h
    · rename_i hz
      injection h with h; subst h
      refine ⟨?_, fun _ p hp => by cases hp⟩
      simp only [RC, List.map_nil]
      rw [Array.eq_empty_of_size_eq_zero hz.1, Array.eq_empty_of_size_eq_zero hz.2]
    · injection h with h; subst h; exact ⟨⟨rfl, trivial⟩, fun _ => trivial⟩
  · cases h
  · cases h
  · rename_i h1 h2
    injection h with h; subst h
    refine ⟨⟨rfl, ?_⟩, fun _ => trivial⟩
    cases v <;> first | trivial | exact absurd rfl (h1 _) | exact absurd rfl (h2 _)
theorem ofL_rel {g : Gh} {w : World} : ∀ {vs : List Value} {l : List C}, ofL vs = some l → All2 (RC g w) l vs ∧ ∀ x ∈ l, ∀ n, x.lt n
  | [], l, h => by injection h with h; subst h; exact ⟨trivial, fun x hx => by cases hx⟩
  | v :: vs, l, h => by
    unfold ofL at h
    split at h
    · rename_i c r h1 h2
      injection h with h; subst h
      obtain ⟨h3, h4⟩ := ofL_rel (g := g) (w := w) h2
      obtain ⟨h5, h6⟩ := ofV_rel (g := g) (w := w) h1
      refine ⟨⟨h5, h3⟩, fun x hx => ?_⟩
      rcases List.mem_cons.1 hx with rfl | hx
      · exact h6
      · exact h4 x hx
    · cases h
theorem vofV_rel {g : Gh} {w : World} {v : Value} {x : V} (h : V.ofV v = some x) : RV1 g w x v ∧ ∀ n, x.lt n := by
  unfold V.ofV at h
  split at h
  · rename_i cs
    split at h
    · rename_i l h1
      injection h with h; subst h
      obtain ⟨h2, h3⟩ := ofL_rel (g := g) (w := w) h1
      exact ⟨⟨cs.toList, by simp, h2⟩, fun n y hy => h3 y hy n⟩
    · cases h
  · split at h
    · rename_i z h1
      injection h with h; subst h
      exact ofV_rel h1
    · cases h
/-- The slots of a frame, as far as `sl` goes. -/
structure Env (sl : Nat → Prop) (g : Gh) (w : World) (nx : Nat) (T : Tr A) (ρ : Operand → Value) : Prop where
  slot : ∀ t a, sl t → T.get t = some a → RA g w a (ρ (.tmp t)) ∧ a.lt nx
  const : ∀ v, ρ (.const v) = v
  func : ∀ f, ρ (.func f) = .func (.func f) #[] #[]
variable {P : Program} {sl : Nat → Prop} {g : Gh} {w : World} {nx : Nat} {T : Tr A} {ρ : Operand → Value}
theorem Env.op (h : Env sl g w nx T ρ) {x : Operand} {y : O} {a : A} (hx : rdyO x = some y) (hy : ∀ t ∈ y.slot, sl t) (ha : opA T y = some a) : RA g w a (ρ x) ∧ a.lt nx := by
  cases x with
  | tmp t =>
    simp only [rdyO] at hx
    injection hx with hx; subst hx
    exact h.slot t a (hy t (by simp [O.slot])) ha
  | const v =>
    simp only [rdyO, Option.map_eq_some_iff] at hx
    obtain ⟨z, h1, rfl⟩ := hx
    simp only [opA] at ha
    injection ha with ha; subst ha
    obtain ⟨h2, h3⟩ := vofV_rel (g := g) (w := w) h1
    rw [h.const]
    exact ⟨h2, h3 nx⟩
  | func f =>
    simp only [rdyO] at hx
    injection hx with hx; subst hx
    simp only [opA] at ha
    injection ha with ha; subst ha
    rw [h.func]
    exact ⟨rfl, fun p hp => by cases hp⟩
  | global k => simp [rdyO] at hx
/-- What evaluation says of memory. -/
def StepS (s : S) (g : Gh) (w : World) (s' : S) (g' : Gh) (w' : World) : Prop :=
  Step (fun b => b ∈ s'.lg) s.H.get g s.nx w s'.H.get g' s'.nx w' ∧ ∀ b ∈ s.lg, b ∈ s'.lg
/-- A result and its memory. -/
def Good (s : S) (g : Gh) (w : World) (r : A) (s' : S) (v : Value) (w' : World) : Prop :=
  ∃ g', StepS s g w s' g' w' ∧ RA g' w' r v ∧ r.lt s'.nx
theorem Good.same {s : S} {r : A} {v : Value} (hs : Sim s.H.get g s.nx w) (h : RA g w r v) (hl : r.lt s.nx) : Good s g w r s v w :=
  ⟨g, ⟨hs.rfl_step _, fun _ h => h⟩, h, hl⟩
theorem mv_same {s s' : S} {x : Option A} {r : A} (h : kMv s x = some (r, s')) : x = some r ∧ s' = s := by
  unfold kMv at h
  split at h
  · injection h with h; injection h with h1 h2; exact ⟨by rw [h1], h2.symm⟩
  · cases h
theorem zero_rel {g : Gh} {w : World} {t : TypeId} {l : List C} (h : zeroCells P t = some l) : ∃ i v, P.info? t = some i ∧ i.zero = some v ∧ All2 (RC g w) l v.cells.toList ∧ ∀ x ∈ l, ∀ n, x.lt n := by
  unfold zeroCells at h
  split at h
  · rename_i i h1
    split at h
    · rename_i v h2
      obtain ⟨h3, h4⟩ := ofL_rel (g := g) (w := w) h
      exact ⟨i, v, h1, h2, h3, h4⟩
    · cases h
  · cases h
theorem run_zero {t : TypeId} {i : TypeInfo} {v : Value} (h1 : P.info? t = some i) (h2 : i.zero = some v) : (zeroValue t).run P w = .ok v w := by
  simp [zeroValue, typeInfo, Sem.run_bind, h1, h2]
/-- A new block out of related cells. -/
theorem Good.new {s : S} {l : List C} {cs : Array Value} {t : TypeId} (hs : Sim s.H.get g s.nx w) (hl : ∀ x ∈ l, x.lt s.nx) (hr : All2 (RC g w) l cs.toList) :
    ∃ g', StepS s g w (s.new l) g' (w.alloc (.cells cs t)) ∧ g'.m s.nx = w.heap.size := by
  refine ⟨g.new s.nx w, ⟨hs.new_step hl (by have := hr.length; simp at this; omega) (fun i x hx => ?_) (fun b x hb => ?_), fun _ h => h⟩, by simp [Gh.new]⟩
  · obtain ⟨v, h1, h2⟩ := hr.get hx
    exact ⟨v, by simpa using h1, h2⟩
  · rcases Tr.get_set _ _ _ _ _ _ (show (Tr.set depth s.H s.nx (some l)).get b = some x from hb) with ⟨h1, h2⟩ | h
    · exact .inl ⟨h1, by injection h2 with h2; exact h2.symm⟩
    · exact .inr h
theorem cells_rel {x : V} {v : Value} (h : RV1 g w x v) : All2 (RC g w) x.cells v.cells.toList := by
  cases x with
  | c x =>
    have h1 := rc_one h
    have : v.cells = #[v] := by cases v <;> first | rfl | cases h1
    rw [this]
    exact ⟨h, trivial⟩
  | agg l =>
    obtain ⟨cs, rfl, h2⟩ := h
    simpa [Value.cells, V.cells] using h2
theorem cells_lt {x : V} {n : Nat} (h : x.lt n) : ∀ y ∈ x.cells, y.lt n := by
  cases x with
  | c x => intro y hy; simp [V.cells] at hy; subst hy; exact h
  | agg l => exact h
section
variable {o : Oper} {s s' : S} {r : A}
theorem s_mv {x : Operand} {y : O} (ho : o.op = .move x ∨ o.op = .assign x) (hx : rdyO x = some y) (he : kMv s (opA T y) = some (r, s')) (hE : Env sl g w s.nx T ρ) (hy : ∀ t ∈ y.slot, sl t)
    (hs : Sim s.H.get g s.nx w) : Own.Yields P o ρ w (Good s g w r s') := by
  obtain ⟨h1, rfl⟩ := mv_same he
  obtain ⟨h2, h3⟩ := hE.op hx hy h1
  refine yields_value (v := ρ x) (w' := w) ?_ (Good.same hs h2 h3)
  rcases ho with ho | ho <;> simp [execOp, ho]
theorem s_pick {z x y : Operand} {z' x' y' : O} (ho : o.op = .pick z x y) (hz : rdyO z = some z') (hx : rdyO x = some x') (hy : rdyO y = some y') (he : kPick s (opA T z') (opA T x') (opA T y') = some (r, s'))
    (hE : Env sl g w s.nx T ρ) (hl : ∀ t, t ∈ z'.slot ++ x'.slot ++ y'.slot → sl t) (hs : Sim s.H.get g s.nx w) : Own.Yields P o ρ w (Good s g w r s') := by
  unfold kPick at he
  split at he
  · rename_i h0
    obtain ⟨h1, rfl⟩ := mv_same he
    obtain ⟨h2, h3⟩ := hE.op hx (fun t ht => hl t (by simp [ht])) h1
    obtain ⟨h4, _⟩ := hE.op hz (fun t ht => hl t (by simp [ht])) h0
    refine yields_value (v := ρ x) (w' := w) ?_ (Good.same hs h2 h3)
    simp [execOp, ho, show ρ z = .bool true from h4, asBool]
  · rename_i h0
    obtain ⟨h1, rfl⟩ := mv_same he
    obtain ⟨h2, h3⟩ := hE.op hy (fun t ht => hl t (by simp [ht])) h1
    obtain ⟨h4, _⟩ := hE.op hz (fun t ht => hl t (by simp [ht])) h0
    refine yields_value (v := ρ y) (w' := w) ?_ (Good.same hs h2 h3)
    simp [execOp, ho, show ρ z = .bool false from h4, asBool]
  · cases he
theorem s_new {t : TypeId} {l : List C} (ho : o.op = .alloc t) (hz : zeroCells P t = some l) (he : kNew s l = some (r, s')) (hs : Sim s.H.get g s.nx w) : Own.Yields P o ρ w (Good s g w r s') := by
  unfold kNew at he
  injection he with he; injection he with h1 h2; subst h1; subst h2
  obtain ⟨i, v, h3, h4, h5, h6⟩ := zero_rel (g := g) (w := w) hz
  obtain ⟨g', h7, h8⟩ := Good.new (t := t) hs (fun x hx => h6 x hx _) h5
  refine yields_value (v := .pointer (some ⟨w.heap.size, 0, none⟩)) (w' := w.alloc (.cells v.cells t)) ?_ ⟨g', h7, ?_, ?_⟩
  · simp [execOp, ho, Instr.alloc, newVar, newRow, newObj, Sem.run_bind, run_zero h3 h4, Sem.run]
  · show _ = _; rw [h8]
  · show _ < _; exact Nat.lt_succ_self _
theorem s_box {t : TypeId} {x : Operand} {y : O} (ho : o.op = .box t x) (hx : rdyO x = some y) (he : kBox s (opA T y) = some (r, s')) (hE : Env sl g w s.nx T ρ) (hy : ∀ t ∈ y.slot, sl t)
    (hs : Sim s.H.get g s.nx w) : Own.Yields P o ρ w (Good s g w r s') := by
  unfold kBox at he
  split at he
  · rename_i v h0
    unfold kNew at he
    injection he with he; injection he with h1 h2; subst h1; subst h2
    obtain ⟨h3, h4⟩ := hE.op hx hy h0
    obtain ⟨g', h7, h8⟩ := Good.new (t := t) hs (cells_lt h4) (cells_rel h3)
    refine yields_value (v := .pointer (some ⟨w.heap.size, 0, none⟩)) (w' := w.alloc (.cells (ρ x).cells t)) ?_ ⟨g', h7, ?_, ?_⟩
    · simp [execOp, ho, Instr.box, newVar, newRow, newObj, Sem.run]
    · show _ = _; rw [h8]
    · show _ < _; exact Nat.lt_succ_self _
  · cases he
end
end Go.Ev
end
/- ev: operations that look at no memory, II. No program. -/
section
namespace Go.Ev
open Go.RowKit Go.Own
variable {P : Program} {sl : Nat → Prop} {g : Gh} {w : World} {nx : Nat} {T : Tr A} {ρ : Operand → Value} {o : Oper} {s s' : S} {r : A}
theorem run_size {t : TypeId} {n : Nat} (h : sizeOf P t = some n) : (Go.sizeOf t).run P w = .ok n w := by
  simp only [sizeOf, Option.map_eq_some_iff] at h
  obtain ⟨i, h1, h2⟩ := h
  simp [Go.sizeOf, typeInfo, Sem.run_bind, h1, h2]
theorem run_agg {t : TypeId} {b : Bool} (h : isAgg P t = some b) : (Go.isAgg t).run P w = .ok b w := by
  simp only [isAgg, Option.map_eq_some_iff] at h
  obtain ⟨d, h1, h2⟩ := h
  unfold Go.isAgg
  rw [Sem.run_bind, run_underlying h1 w]
  subst h2
  cases d <;> simp
theorem nat_rel {x : Option A} {n : Nat} {v : Value} (h : x.bind natOf = some n) (hr : ∀ a, x = some a → RA g w a v) : ∃ k, v = .int k (n : Int) := by
  cases x with
  | none => cases h
  | some a =>
    have hr := hr a rfl
    simp only [Option.bind_some] at h
    unfold natOf at h
    split at h
    · rename_i k m _
      injection h with h; subst h
      exact ⟨k, hr⟩
    · cases h
theorem s_nil {x : Operand} {y : O} (ho : o.op = .nilCheck x) (hx : rdyO x = some y) (he : kNil s (opA T y) = some (r, s')) (hE : Env sl g w s.nx T ρ) (hy : ∀ t ∈ y.slot, sl t)
    (hs : Sim s.H.get g s.nx w) : Own.Yields P o ρ w (Good s g w r s') := by
  unfold kNil at he
  split at he
  · rename_i b f h0
    injection he with he; injection he with h1 h2; subst h1; subst h2
    obtain ⟨h3, h4⟩ := hE.op hx hy h0
    refine yields_value (v := ρ x) (w' := w) ?_ (Good.same hs h3 h4)
    simp [execOp, ho, show ρ x = _ from h3]
  · rename_i f c h0
    injection he with he; injection he with h1 h2; subst h1; subst h2
    obtain ⟨h3, h4⟩ := hE.op hx hy h0
    refine yields_value (v := ρ x) (w' := w) ?_ (Good.same hs h3 h4)
    simp [execOp, ho, show ρ x = _ from h3]
  · cases he
theorem s_fa {t : TypeId} {x : Operand} {y : O} {f n : Nat} {fs : Array Field} {fd : Field} (ho : o.op = .fieldAddr t x f) (hu : P.underlying t = some (.struct fs)) (hf : fs[f]? = some fd) (hn : sizeOf P fd.type = some (n + 1))
    (hx : rdyO x = some y) (he : kFa s fd.offset (opA T y) = some (r, s')) (hE : Env sl g w s.nx T ρ) (hy : ∀ t ∈ y.slot, sl t)
    (hs : Sim s.H.get g s.nx w) : Own.Yields P o ρ w (Good s g w r s') := by
  unfold kFa at he
  split at he
  · rename_i b off h0
    injection he with he; injection he with h1 h2; subst h1; subst h2
    obtain ⟨h3, h4⟩ := hE.op hx hy h0
    refine yields_value (v := .pointer (some ⟨g.m b, off + fd.offset, none⟩)) (w' := w) ?_ (Good.same hs rfl h4)
    simp [execOp, ho, Instr.fieldAt, Instr.sureAddr, fieldPlace, Sem.run_bind, run_underlying hu, hf, run_size hn, show ρ x = _ from h3, Addr.add_lit]
  · cases he
theorem s_ia {t elem : TypeId} {x j : Operand} {x' j' : O} {n : Nat} (ho : o.op = .indexAddr t x j) (hu : P.underlying t = some (.slice elem)) (hn : sizeOf P elem = some n)
    (hx : rdyO x = some x') (hj : rdyO j = some j') (he : kIa s n (opA T x') (opA T j') = some (r, s')) (hE : Env sl g w s.nx T ρ) (hy : ∀ t, t ∈ x'.slot ++ j'.slot → sl t)
    (hs : Sim s.H.get g s.nx w) : Own.Yields P o ρ w (Good s g w r s') := by
  unfold kIa at he
  split at he
  · rename_i i h0
    obtain ⟨k, hk⟩ := nat_rel (v := ρ j) h0 (fun a ha => (hE.op hj (fun t ht => hy t (by simp [ht])) ha).1)
    split at he
    · rename_i b off len cap u h1
      split at he
      · rename_i hc
        injection he with he; injection he with h5 h6; subst h5; subst h6
        obtain ⟨⟨cap', _, _, _, h3⟩, h4⟩ := hE.op hx (fun t ht => hy t (by simp [ht])) h1
        refine yields_value (v := .pointer (some ⟨g.m b, off + i * n, none⟩)) (w' := w) ?_ (Good.same hs rfl h4)
        have hi : (i : Int) < (len : Int) := by omega
        simp [execOp, ho, Instr.indexAt, asIntOf, Sem.run_bind, run_underlying hu, hk, h3, run_size hn, Addr.add_lit]
        intro h9; omega
      · cases he
    · rename_i d h1
      split at he
      · rename_i hc
        obtain ⟨rfl, hd, rfl⟩ := hc
        injection he with he; injection he with h5 h6; subst h5; subst h6
        obtain ⟨⟨_, ⟨h2, _⟩ | ⟨_, c, off, cap, h3, _, _, h4, h5, h6⟩⟩, h7⟩ := hE.op hx (fun t ht => hy t (by simp [ht])) h1
        · omega
        · refine yields_value (v := .pointer (some ⟨c, off, none⟩)) (w' := w) ?_ (Good.same hs ⟨c, off, rfl, h4, h5, h6⟩ trivial)
          simp [execOp, ho, Instr.indexAt, asIntOf, Sem.run_bind, run_underlying hu, hk, h3, run_size hn, Addr.add_lit]
      · cases he
    · cases he
  · cases he
theorem s_aa {t elem : TypeId} {x j : Operand} {x' j' : O} {n len : Nat} (ho : o.op = .indexAddr t x j) (hu : P.underlying t = some (.array len elem)) (hn : sizeOf P elem = some n)
    (hx : rdyO x = some x') (hj : rdyO j = some j') (he : kAa s len n (opA T x') (opA T j') = some (r, s')) (hE : Env sl g w s.nx T ρ) (hy : ∀ t, t ∈ x'.slot ++ j'.slot → sl t)
    (hs : Sim s.H.get g s.nx w) : Own.Yields P o ρ w (Good s g w r s') := by
  unfold kAa at he
  split at he
  · rename_i i h0
    obtain ⟨k, hk⟩ := nat_rel (v := ρ j) h0 (fun a ha => (hE.op hj (fun t ht => hy t (by simp [ht])) ha).1)
    split at he
    · rename_i b off h1
      split at he
      · rename_i hc
        injection he with he; injection he with h5 h6; subst h5; subst h6
        obtain ⟨h3, h4⟩ := hE.op hx (fun t ht => hy t (by simp [ht])) h1
        refine yields_value (v := .pointer (some ⟨g.m b, off + i * n, none⟩)) (w' := w) ?_ (Good.same hs rfl h4)
        have hi : (i : Int) < (len : Int) := by omega
        simp [execOp, ho, Instr.indexAt, Instr.sureAddr, asIntOf, Sem.run_bind, run_underlying hu, hk, show ρ x = _ from h3, run_size hn, Addr.add_lit]
        intro h9; omega
      · cases he
    · cases he
  · cases he
theorem s_ext {x : Operand} {y : O} {j : Nat} (ho : o.op = .extract x j) (hx : rdyO x = some y) (he : kExt s j (opA T y) = some (r, s')) (hE : Env sl g w s.nx T ρ) (hy : ∀ t ∈ y.slot, sl t)
    (hs : Sim s.H.get g s.nx w) : Own.Yields P o ρ w (Good s g w r s') := by
  unfold kExt at he
  split at he
  · rename_i l h0
    split at he
    · rename_i v h1
      injection he with he; injection he with h5 h6; subst h5; subst h6
      obtain ⟨⟨vs, h2, h3⟩, h4⟩ := hE.op hx hy h0
      obtain ⟨u, h6, h7⟩ := h3.get h1
      refine yields_value (v := u) (w' := w) ?_ (Good.same hs h7 (h4 _ (List.mem_of_getElem? h1)))
      simp [execOp, ho, Instr.extract, h2, h6]
    · cases he
  · cases he
theorem s_len {x : Operand} {y : O} {t elem : TypeId} {c : Call} (ho : o.op = .call c) (hc : c.callee = .builtin .len) (hxs : c.args.toList = [x]) (ht : c.argTypes[0]? = some t) (hu : P.underlying t = some (.slice elem))
    (hx : rdyO x = some y) (he : kLen s (opA T y) = some (r, s')) (hE : Env sl g w s.nx T ρ) (hy : ∀ t ∈ y.slot, sl t)
    (hs : Sim s.H.get g s.nx w) : Own.Yields P o ρ w (Good s g w r s') := by
  obtain ⟨callee, args, argTypes⟩ := c
  simp only at hc hxs ht
  subst hc
  have ha : args = #[x] := by rw [← Array.toList_inj]; simpa using hxs
  subst ha
  unfold kLen at he
  split at he
  · rename_i n h0
    injection he with he; injection he with h5 h6; subst h5; subst h6
    cases h1 : opA T y with
    | none => rw [h1] at h0; cases h0
    | some a =>
      rw [h1] at h0
      obtain ⟨h3, h4⟩ := hE.op hx hy h1
      have hv : ∃ p q, ρ x = .slice p n q := by
        simp only [Option.bind_some] at h0
        unfold lenA at h0
        split at h0
        · injection h0 with h0; subst h0
          obtain ⟨cap', _, _, _, h3⟩ := h3
          exact ⟨_, _, h3⟩
        · injection h0 with h0; subst h0; exact ⟨_, _, h3⟩
        · injection h0 with h0
          obtain ⟨_, ⟨h5, h6⟩ | ⟨h5, c, off, cap, h6, _⟩⟩ := h3
          · rw [if_pos h5] at h0; subst h0; exact ⟨_, _, h6⟩
          · rw [if_neg (by omega)] at h0; subst h0; exact ⟨_, _, h6⟩
        · cases h0
      obtain ⟨p, q, hv⟩ := hv
      refine yields_value (v := .int .i64 n) (w' := w) ?_ (Good.same hs rfl trivial)
      simp [execOp, ho, resolve, invoke, builtin, Builtin.len_, Sem.run_bind, ht, run_underlying hu, hv, goInt]
  · cases he
end Go.Ev
end
