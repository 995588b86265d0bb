/- ev: operations in any order: one more operation beside those that ran. No program. -/
import Derived.Test.YtkccmpikeekceaaGreatTQ17
/- ev: operations in any order: one more operation beside those that ran. No program. -/
section
namespace Go.Ev
open Go.RowKit Go.Own
theorem name_lt {x : C} {n : Nat} : x.lt n ↔ ∀ b ∈ x.name, b < n := by
  cases x <;> simp [C.lt, C.name]
theorem vname_lt {x : V} {n : Nat} : x.lt n ↔ ∀ b ∈ x.names, b < n := by
  cases x with
  | c x => exact name_lt
  | agg l =>
    simp only [V.lt, V.names, List.mem_flatMap]
    exact ⟨fun h b ⟨y, hy, hb⟩ => name_lt.1 (h y hy) b hb, fun h y hy => name_lt.2 fun b hb => h b ⟨y, hy, hb⟩⟩
theorem aname_lt {x : A} {n : Nat} : x.lt n ↔ ∀ b ∈ x.names, b < n := by
  cases x with
  | v x => exact vname_lt
  | tup l =>
    simp only [A.lt, A.names, List.mem_flatMap]
    exact ⟨fun h b ⟨y, hy, hb⟩ => vname_lt.1 (h y hy) b hb, fun h y hy => vname_lt.2 fun b hb => h b ⟨y, hy, hb⟩⟩
section
variable {g1 g2 : Gh} {w w' : World} {p : Nat → Prop}
theorem rc_move (hm : ∀ b, p b → g2.m b = g1.m b) (hD : ∀ c, g1.D c → g2.D c) (hc : ∀ c, g1.D c → c < w.heap.size → w'.heap[c]? = w.heap[c]?) (hz : w.heap.size ≤ w'.heap.size) (hb : ∀ c, bsz w c ≤ bsz w' c) {x : C} {v : Value}
    (hx : ∀ b ∈ x.name, p b) (h : RC g1 w x v) : RC g2 w' x v := by
  cases x with
  | i k n => exact h
  | b x => exact h
  | ns => exact h
  | v x => exact h
  | dig n =>
    obtain ⟨h1, h2 | ⟨h2, c, off, cap, h3, h4, h5, h6, h7, h8⟩⟩ := h
    · exact ⟨h1, .inl h2⟩
    · exact ⟨h1, .inr ⟨h2, c, off, cap, h3, h4, h5, hD c h6, by omega, by rw [World.cell?_of_block (hc c h6 h7)]; exact h8⟩⟩
  | dptr n =>
    obtain ⟨c, off, h3, h6, h7, h8⟩ := h
    exact ⟨c, off, h3, hD c h6, by omega, by rw [World.cell?_of_block (hc c h6 h7)]; exact h8⟩
  | ptr k off =>
    simp only [RC] at h ⊢
    rw [hm k (hx k (by simp [C.name]))]; exact h
  | sl k off len cap u =>
    obtain ⟨c, h1, h2, h3, h4⟩ := h
    have e := hm k (hx k (by simp [C.name]))
    exact ⟨c, h1, h2, by rw [e]; exact Nat.le_trans h3 (hb _), by rw [e]; exact h4⟩
  | fn f caps =>
    simp only [RC] at h ⊢
    rw [h]
    congr 2
    refine List.map_congr_left fun q hq => ?_
    simp only [capV]
    rw [hm q.1 (hx q.1 (by simp only [C.name]; exact List.mem_map_of_mem hq))]
theorem rv_move (hm : ∀ b, p b → g2.m b = g1.m b) (hD : ∀ c, g1.D c → g2.D c) (hc : ∀ c, g1.D c → c < w.heap.size → w'.heap[c]? = w.heap[c]?) (hz : w.heap.size ≤ w'.heap.size) (hb : ∀ c, bsz w c ≤ bsz w' c) {x : V} {v : Value}
    (hx : ∀ b ∈ x.names, p b) (h : RV1 g1 w x v) : RV1 g2 w' x v := by
  cases x with
  | c x => exact rc_move hm hD hc hz hb hx h
  | agg l =>
    obtain ⟨cs, h1, h2⟩ := h
    exact ⟨cs, h1, h2.mono fun a b ha => rc_move hm hD hc hz hb fun k hk => hx k (by simp only [V.names, List.mem_flatMap]; exact ⟨a, ha, hk⟩)⟩
theorem ra_move (hm : ∀ b, p b → g2.m b = g1.m b) (hD : ∀ c, g1.D c → g2.D c) (hc : ∀ c, g1.D c → c < w.heap.size → w'.heap[c]? = w.heap[c]?) (hz : w.heap.size ≤ w'.heap.size) (hb : ∀ c, bsz w c ≤ bsz w' c) {x : A} {v : Value}
    (hx : ∀ b ∈ x.names, p b) (h : RA g1 w x v) : RA g2 w' x v := by
  cases x with
  | v x => exact rv_move hm hD hc hz hb hx h
  | tup l =>
    obtain ⟨cs, h1, h2⟩ := h
    exact ⟨cs, h1, h2.mono fun a b ha => rv_move hm hD hc hz hb fun k hk => hx k (by simp only [A.names, List.mem_flatMap]; exact ⟨a, ha, hk⟩)⟩
end
/-- The memory behind one more operation. -/
def mixM (G K' : Mem) (lg : List Nat) (nx nx' : Nat) : Mem := fun b => if b ∈ lg ∨ (nx ≤ b ∧ b < nx') then K' b else G b
def mixG (g g' : Gh) (nx nx' : Nat) : Gh := { m := fun b => if nx ≤ b ∧ b < nx' then g'.m b else g.m b, D := g'.D }
section
variable {LG lg : List Nat} {Z0 G K K' : Mem} {g0 g g' : Gh} {nx0 nx nx' NX : Nat} {w0 w w' : World}
theorem mix_m (B : Step (· ∈ lg) K g nx w K' g' nx' w') {b : Nat} (hb : b < nx') : (mixG g g' nx nx').m b = g'.m b := by
  simp only [mixG]
  by_cases h : nx ≤ b
  · rw [if_pos ⟨h, hb⟩]
  · rw [if_neg (by omega)]; exact (B.agree b (by omega)).symm
theorem Step.mix (Z : Step (· ∈ LG) Z0 g0 nx0 w0 G g NX w) (B : Step (· ∈ lg) K g nx w K' g' nx' w') (hK : ∀ b l, K b = some l → G b = some l) (h0 : nx0 ≤ nx) (hn : nx' ≤ NX)
    (_hfresh : ∀ b, nx ≤ b → b < nx' → G b = none) (havoid : ∀ b l, G b = some l → ∀ x ∈ l, ∀ k ∈ x.name, ¬ (nx ≤ k ∧ k < nx')) (hlg : ∀ b ∈ lg, b ∈ LG) (_hln : ∀ b ∈ lg, b < nx) :
    Step (· ∈ LG) Z0 g0 nx0 w0 (mixM G K' lg nx nx') (mixG g g' nx nx') NX w' := by
  have A := Z.sim
  have hbl : ∀ b x, G b = some x → g.m b < w.heap.size := fun b x hx => by
    obtain ⟨_, _, _, cs', t', e, _⟩ := A.blk b x hx
    rcases Nat.lt_or_ge (g.m b) w.heap.size with h2 | h2
    · exact h2
    · rw [Array.getElem?_eq_none h2] at e; cases e
  have hKn : ∀ b, K b ≠ none → G b ≠ none := fun b hb => by
    cases e : K b with
    | none => exact absurd e hb
    | some l => rw [hK b l e]; simp
  have hDk : ∀ c, g.D c → c < w.heap.size → w'.heap[c]? = w.heap[c]? := fun c hc hlt => B.frame c hlt fun b _ hb e => by
    cases e1 : K b with
    | none => exact hb e1
    | some l => have := (A.blk b l (hK b l e1)).2.2.1; rw [e] at this; exact this hc
  have hout : ∀ b, ¬ (nx ≤ b ∧ b < nx') → (mixG g g' nx nx').m b = g.m b := fun b hb => by simp only [mixG]; rw [if_neg hb]
  -- the two kinds of blocks
  have hcase : ∀ b x, mixM G K' lg nx nx' b = some x → ((b ∈ lg ∨ (nx ≤ b ∧ b < nx')) ∧ K' b = some x) ∨ (b ∉ lg ∧ ¬ (nx ≤ b ∧ b < nx') ∧ G b = some x) := by
    intro b x hx
    unfold mixM at hx
    by_cases h : b ∈ lg ∨ (nx ≤ b ∧ b < nx')
    · rw [if_pos h] at hx; exact .inl ⟨h, hx⟩
    · rw [if_neg h] at hx; exact .inr ⟨fun h2 => h (.inl h2), fun h2 => h (.inr h2), hx⟩
  have himg : ∀ b, b ∈ lg ∨ (nx ≤ b ∧ b < nx') → K' b ≠ none → (∃ b0 ∈ lg, G b0 ≠ none ∧ g.m b0 = g'.m b) ∨ w.heap.size ≤ g'.m b := by
    intro b hb hk
    rcases Nat.lt_or_ge b nx with h | h
    · have hbl : b ∈ lg := hb.resolve_right (by omega)
      exact .inl ⟨b, hbl, hKn b (B.live b h hk), (B.agree b h).symm⟩
    · rcases B.img b h hk with ⟨b0, h1, h2, h3⟩ | h1
      · exact .inl ⟨b0, h1, hKn b0 h2, h3⟩
      · exact .inr h1
  have hlt' : ∀ b x, K' b = some x → b < nx' := fun b x hx => (B.sim.blk b x hx).1
  refine { sim := ⟨?_, ?_, B.sim.dsz⟩, mono := Z.mono, agree := ?_, dig := fun c hc => B.dig c (Z.dig c hc), dnew := ?_, frame := ?_, img := ?_, live := ?_, bs := fun c => Nat.le_trans (Z.bs c) (B.bs c), size := Nat.le_trans Z.size B.size, os := B.os.trans Z.os, tape := B.tape.trans Z.tape, output := B.output.trans Z.output }
  · intro b l hl
    rcases hcase b l hl with ⟨hb, hk⟩ | ⟨hb1, hb2, hk⟩
    · obtain ⟨h1, h2, h3, cs, t, h4, h5, h6⟩ := B.sim.blk b l hk
      rw [mix_m B h1]
      refine ⟨by omega, fun y hy => lt_mono hn (h2 y hy), h3, cs, t, h4, h5, fun i x hx => ?_⟩
      obtain ⟨v, h7, h8⟩ := h6 i x hx
      exact ⟨v, h7, rc_move (p := (· < nx')) (fun b hb => mix_m B hb) (fun _ h => h) (fun _ _ _ => rfl) (Nat.le_refl _) (fun _ => Nat.le_refl _) (name_lt.1 (h2 x (List.mem_of_getElem? hx))) h8⟩
    · obtain ⟨h1, h2, h3, cs, t, h4, h5, h6⟩ := A.blk b l hk
      rw [hout b hb2]
      refine ⟨h1, h2, ?_, cs, t, ?_, h5, fun i x hx => ?_⟩
      · intro hd
        rcases B.dnew _ hd with h | h
        · exact h3 h
        · have := hbl b l hk; omega
      · rw [B.frame (g.m b) (hbl b l hk) fun b' hw hk' e => ?_]
        · exact h4
        · have : b' = b := A.inj b' b (hKn b' hk') (by rw [hk]; simp) e
          exact hb1 (this ▸ hw)
      · obtain ⟨v, h7, h8⟩ := h6 i x hx
        exact ⟨v, h7, rc_move (p := fun k => ¬ (nx ≤ k ∧ k < nx')) hout B.dig hDk B.size B.bs (havoid b l hk x (List.mem_of_getElem? hx)) h8⟩
  · intro b b' hb hb' e
    cases e1 : mixM G K' lg nx nx' b with
    | none => exact absurd e1 hb
    | some x => cases e2 : mixM G K' lg nx nx' b' with
      | none => exact absurd e2 hb'
      | some y =>
        rcases hcase b x e1 with ⟨h1, h2⟩ | ⟨h1, h2, h3⟩
        · rcases hcase b' y e2 with ⟨h4, h5⟩ | ⟨h4, h5, h6⟩
          · rw [mix_m B (hlt' b x h2), mix_m B (hlt' b' y h5)] at e
            exact B.sim.inj b b' (by rw [h2]; simp) (by rw [h5]; simp) e
          · exfalso
            rw [mix_m B (hlt' b x h2), hout b' h5] at e
            rcases himg b h1 (by rw [h2]; simp) with ⟨b0, c1, c2, c3⟩ | c1
            · have : b0 = b' := A.inj b0 b' c2 (by rw [h6]; simp) (c3.trans e)
              exact h4 (this ▸ c1)
            · have := hbl b' y h6; omega
        · rcases hcase b' y e2 with ⟨h4, h5⟩ | ⟨h4, h5, h6⟩
          · exfalso
            rw [hout b h2, mix_m B (hlt' b' y h5)] at e
            rcases himg b' h4 (by rw [h5]; simp) with ⟨b0, c1, c2, c3⟩ | c1
            · have : b0 = b := A.inj b0 b c2 (by rw [h3]; simp) (c3.trans e.symm)
              exact h1 (this ▸ c1)
            · have := hbl b x h3; omega
          · rw [hout b h2, hout b' h5] at e
            exact A.inj b b' (by rw [h3]; simp) (by rw [h6]; simp) e
  · intro b hb
    rw [hout b (by omega)]
    exact Z.agree b hb
  · intro c hc
    rcases B.dnew c hc with h | h
    · exact Z.dnew c h
    · exact .inr (Nat.le_trans Z.size h)
  · intro c hc hf
    refine (B.frame c (Nat.lt_of_lt_of_le hc Z.size) fun b hw hk e => ?_).trans (Z.frame c hc hf)
    rcases Nat.lt_or_ge b nx0 with h | h
    · exact hf b (hlg b hw) (Z.live b h (hKn b hk)) ((Z.agree b h).symm.trans e)
    · rcases Z.img b h (hKn b hk) with ⟨b0, h1, h2, h3⟩ | h1
      · exact hf b0 h1 h2 (h3.trans e)
      · omega
  · intro b hb hk
    cases e1 : mixM G K' lg nx nx' b with
    | none => exact absurd e1 hk
    | some x =>
      rcases hcase b x e1 with ⟨h1, h2⟩ | ⟨h1, h2, h3⟩
      · rw [mix_m B (hlt' b x h2)]
        rcases himg b h1 (by rw [h2]; simp) with ⟨b0, c1, c2, c3⟩ | c1
        · rcases Nat.lt_or_ge b0 nx0 with h | h
          · exact .inl ⟨b0, hlg b0 c1, Z.live b0 h c2, (Z.agree b0 h).symm.trans c3⟩
          · rcases Z.img b0 h c2 with ⟨b1, d1, d2, d3⟩ | d1
            · exact .inl ⟨b1, d1, d2, d3.trans c3⟩
            · exact .inr (by rw [← c3]; exact d1)
        · exact .inr (Nat.le_trans Z.size c1)
      · rw [hout b h2]
        exact Z.img b hb (by rw [h3]; simp)
  · intro b hb hk
    cases e1 : mixM G K' lg nx nx' b with
    | none => exact absurd e1 hk
    | some x =>
      rcases hcase b x e1 with ⟨h1, h2⟩ | ⟨h1, h2, h3⟩
      · exact Z.live b hb (hKn b (B.live b (by omega) (by rw [h2]; simp)))
      · exact Z.live b hb (by rw [h3]; simp)
end
end Go.Ev
end
/- ev: drawn regions: what was made ready, and the run in the order of the text. No program. -/
section
namespace Go.Ev
open Go.RowKit Go.Own
variable {P : Program}
theorem maskOf_bit {acc : List Nat} {j : Nat} : ∀ (after : List Edge) (s0 : Nat), (after.foldl (fun s e => if Region.binds .any e then s ||| 2 ^ e.on ||| acc.getD e.on 0 else s) s0).testBit j = true →
    s0.testBit j = true ∨ ∃ e ∈ after, Region.binds .any e = true ∧ (e.on = j ∨ (acc.getD e.on 0).testBit j = true)
  | [], s0, h => .inl h
  | e :: r, s0, h => by
    simp only [List.foldl_cons] at h
    rcases maskOf_bit r _ h with h1 | ⟨e', h1, h2⟩
    · split at h1
      · rename_i hb
        rw [Nat.testBit_or, Nat.testBit_or, Bool.or_eq_true, Bool.or_eq_true] at h1
        rcases h1 with (h1 | h1) | h1
        · exact .inl h1
        · rw [Nat.testBit_two_pow] at h1
          exact .inr ⟨e, by simp, hb, .inl (by simpa using h1)⟩
        · exact .inr ⟨e, by simp, hb, .inr h1⟩
      · exact .inl h1
    · exact .inr ⟨e', by simp [h1], h2⟩
/-- An operation made ready, with what goes before it. -/
structure AlX (P : Program) (nt : Nat) (ops : Array Oper) (o : Oper) (x : X) (k : Nat) (bef : Nat → Nat) : Prop where
  al : Al P nt ops o x
  lt : ∀ e ∈ o.after, Region.binds .any e = true → e.on < k
  bit : ∀ j, x.bef.testBit j = true → ∃ e ∈ o.after, Region.binds .any e = true ∧ (e.on = j ∨ (bef e.on).testBit j = true)
theorem rdyX_al {nt : Nat} {all : Array Oper} : ∀ {r : List Oper} {acc : List Nat} {l : List X}, rdyX P nt all r acc = some l → l.length = r.length ∧
    ∀ (k : Nat) (o : Oper), r[k]? = some o → ∃ x, l[k]? = some x ∧ AlX P nt all o x (acc.length + k) (fun q => (acc ++ l.map (·.bef)).getD q 0)
  | [], acc, l, h => by
    simp only [rdyX] at h
    injection h with h; subst h
    exact ⟨rfl, fun k o hk => by simp at hk⟩
  | o :: r, acc, l, h => by
    simp only [rdyX] at h
    split at h
    · rename_i i g l' h1 h2 h3
      split at h
      · rename_i hc
        injection h with h; subst h
        unfold okX at hc
        rw [Bool.and_eq_true] at hc
        obtain ⟨hc1, hc2⟩ := hc
        obtain ⟨h4, h5⟩ := rdyX_al h3
        refine ⟨by simp [h4], fun k q hk => ?_⟩
        have hlt : ∀ e ∈ o.after, Region.binds .any e = true → e.on < acc.length := by
          intro e he hb
          have := List.all_eq_true.1 hc1 e (by simpa using he)
          simpa [hb] using this
        cases k with
        | zero =>
          simp at hk; subst hk
          refine ⟨_, rfl, ⟨⟨h1, rfl, ?_, ?_⟩, fun e he hb => by have := hlt e he hb; simpa using this, ?_⟩⟩
          · intro d hd
            rw [hd] at hc2
            simpa using hc2
          · split at h2
            · rename_i hg
              injection h2 with h2; subst h2
              exact .inl ⟨hg, rfl⟩
            · rename_i j want hg
              split at h2
              · rename_i hbit
                split at h2
                · rename_i d hd
                  injection h2 with h2; subst h2
                  exact .inr ⟨j, want, d, hg, hd, rfl, hbit⟩
                · cases h2
              · cases h2
          · intro j hj
            unfold maskOf at hj
            rcases maskOf_bit _ _ hj with h6 | ⟨e, h6, h7, h8⟩
            · simp at h6
            · refine ⟨e, by simpa using h6, h7, ?_⟩
              rcases h8 with h8 | h8
              · exact .inl h8
              · right
                have hl := hlt e (by simpa using h6) h7
                show ((acc ++ _).getD e.on 0).testBit j = true
                rw [List.getD_eq_getElem?_getD, List.getElem?_append_left hl, ← List.getD_eq_getElem?_getD]
                exact h8
        | succ k =>
          obtain ⟨x, h6, h7⟩ := h5 k q (by simpa using hk)
          refine ⟨x, by simpa using h6, h7.al, fun e he hb => by have := h7.lt e he hb; simp at this; omega, fun j hj => ?_⟩
          obtain ⟨e, c1, c2, c3⟩ := h7.bit j hj
          refine ⟨e, c1, c2, ?_⟩
          rcases c3 with c3 | c3
          · exact .inl c3
          · right
            simpa [List.append_assoc] using c3
      · cases h
    · cases h
/-! the run in the order of the text -/
structure Rc where
  x : X
  d : Dr
  out : Option (A × S)
def Rc.val (r : Rc) : A := match r.out with
  | some (v, _) => v
  | none => undefA
/-- The names that an operation turned or made. -/
def Rc.has (r : Rc) (b : Nat) : Prop := ∃ v s, r.out = some (v, s) ∧ (b ∈ s.lg ∨ (r.d.nx ≤ b ∧ b < s.nx))
section
variable {call : FuncId → List A → S → Rs} {H0 : Tr (List C)} {d0 : Dr}
inductive Ch (P : Program) (call : FuncId → List A → S → Rs) (H0 : Tr (List C)) (d0 : Dr) : List Rc → Dr → Prop
  | nil : Ch P call H0 d0 [] d0
  | run {L : List Rc} {d : Dr} {x : X} {v : A} {s : S} : Ch P call H0 d0 L d → wantA d.T x.grd = some true → evI P call d.T (memOf H0 d x) x.op = some (v, s) → okNext d0.nx d x v s = true → Ch P call H0 d0 (L ++ [⟨x, d, some (v, s)⟩]) (d.next x L.length v s)
  | skip {L : List Rc} {d : Dr} {x : X} : Ch P call H0 d0 L d → wantA d.T x.grd = some false → Ch P call H0 d0 (L ++ [⟨x, d, none⟩]) (d.skip x)
theorem draw_ch : ∀ {l : List X} {L : List Rc} {d : Dr} {out : St}, Ch P call H0 d0 L d → evDraw P call H0 d0.nx l L.length d = some out →
    ∃ L' d', Ch P call H0 d0 L' d' ∧ L'.map (·.x) = L.map (·.x) ++ l ∧ endDraw H0 L'.length d' = some out
  | [], L, d, out, hc, he => ⟨L, d, hc, by simp, he⟩
  | x :: l, L, d, out, hc, he => by
    simp only [evDraw_cons] at he
    split at he
    · rename_i hw
      unfold afterDraw at he
      split at he
      · rename_i v s h1
        cases hok : okNext d0.nx d x v s with
        | false => rw [hok] at he; simp at he
        | true =>
          rw [hok] at he
          simp only [cond_true] at he
          obtain ⟨L', d', h2, h3, h4⟩ := draw_ch (L := L ++ [⟨x, d, some (v, s)⟩]) (hc.run hw h1 hok) (by simpa using he)
          exact ⟨L', d', h2, by rw [h3]; simp, h4⟩
      · cases he
    · rename_i hw
      obtain ⟨L', d', h2, h3, h4⟩ := draw_ch (L := L ++ [⟨x, d, none⟩]) (hc.skip hw) (by simpa using he)
      exact ⟨L', d', h2, by rw [h3]; simp, h4⟩
    · cases he
theorem app_get {α : Type} {L : List α} {y r : α} {k : Nat} (h : (L ++ [y])[k]? = some r) : L[k]? = some r ∨ (k = L.length ∧ r = y) := by
  rcases Nat.lt_or_ge k L.length with h1 | h1
  · rw [List.getElem?_append_left h1] at h; exact .inl h
  · rw [List.getElem?_append_right h1] at h
    right
    cases hk : k - L.length with
    | zero => rw [hk] at h; simp at h; exact ⟨by omega, h.symm⟩
    | succ m => rw [hk] at h; simp at h
theorem app_old {α : Type} {L : List α} {y r : α} {k : Nat} (h : L[k]? = some r) : (L ++ [y])[k]? = some r := by
  rw [List.getElem?_append_left (List.getElem?_eq_some_iff.1 h).1]; exact h
theorem get_lt {α : Type} {L : List α} {r : α} {k : Nat} (h : L[k]? = some r) : k < L.length := (List.getElem?_eq_some_iff.1 h).1
/-- What was known when an operation ran. -/
theorem Ch.at_ {L : List Rc} {d : Dr} (h : Ch P call H0 d0 L d) {k : Nat} {r : Rc} (hk : L[k]? = some r) :
    Ch P call H0 d0 (L.take k) r.d ∧ wantA r.d.T r.x.grd = some r.out.isSome ∧ (∀ v s, r.out = some (v, s) → evI P call r.d.T (memOf H0 r.d r.x) r.x.op = some (v, s) ∧ okNext d0.nx r.d r.x v s = true) := by
  induction h with
  | nil => simp at hk
  | @run L d x v s hc hw he hok ih =>
    rcases app_get hk with h1 | ⟨rfl, rfl⟩
    · rw [List.take_append_of_le_length (Nat.le_of_lt (get_lt h1))]
      exact ih h1
    · rw [List.take_left]
      exact ⟨hc, hw, fun v' s' e => by injection e with e; injection e with e1 e2; subst e1; subst e2; exact ⟨he, hok⟩⟩
  | @skip L d x hc hw ih =>
    rcases app_get hk with h1 | ⟨rfl, rfl⟩
    · rw [List.take_append_of_le_length (Nat.le_of_lt (get_lt h1))]
      exact ih h1
    · rw [List.take_left]
      exact ⟨hc, hw, fun v' s' e => by cases e⟩
/-- Slots. -/
theorem Ch.slot {L : List Rc} {d : Dr} (h : Ch P call H0 d0 L d) {t : Nat} {v : A} (hv : d.T.get t = some v) :
    (∃ (j : Nat) (r : Rc), L[j]? = some r ∧ r.x.dst = some t ∧ v = r.val) ∨ ((∀ (j : Nat) (r : Rc), L[j]? = some r → r.x.dst ≠ some t) ∧ d0.T.get t = some v) := by
  have key : ∀ {L : List Rc} {d : Dr} {y : Rc} {q : A}, ((∀ v, d.T.get t = some v → (∃ (j : Nat) (r : Rc), L[j]? = some r ∧ r.x.dst = some t ∧ v = r.val) ∨ ((∀ (j : Nat) (r : Rc), L[j]? = some r → r.x.dst ≠ some t) ∧ d0.T.get t = some v))) → y.val = q →
      ∀ v, (putT d.T y.x.dst q).get t = some v → (∃ (j : Nat) (r : Rc), (L ++ [y])[j]? = some r ∧ r.x.dst = some t ∧ v = r.val) ∨ ((∀ (j : Nat) (r : Rc), (L ++ [y])[j]? = some r → r.x.dst ≠ some t) ∧ d0.T.get t = some v) := by
    intro L d y q ih hq v hv
    have old : y.x.dst ≠ some t → d.T.get t = some v → (∃ (j : Nat) (r : Rc), (L ++ [y])[j]? = some r ∧ r.x.dst = some t ∧ v = r.val) ∨ ((∀ (j : Nat) (r : Rc), (L ++ [y])[j]? = some r → r.x.dst ≠ some t) ∧ d0.T.get t = some v) := by
      intro hne hv
      rcases ih v hv with ⟨j, r, h1, h2, h3⟩ | ⟨h1, h2⟩
      · exact .inl ⟨j, r, app_old h1, h2, h3⟩
      · refine .inr ⟨fun j r hj => ?_, h2⟩
        rcases app_get hj with h | ⟨_, rfl⟩
        · exact h1 j r h
        · exact hne
    cases hd : y.x.dst with
    | none =>
      rw [hd] at hv
      exact old (by rw [hd]; simp) hv
    | some e =>
      rw [hd] at hv
      rcases Tr.get_set _ _ _ _ _ _ (show (Tr.set depth d.T e (some q)).get t = some v from hv) with ⟨rfl, h2⟩ | ⟨h1, h2⟩
      · injection h2 with h2
        exact .inl ⟨L.length, y, by simp, hd, by rw [hq, h2]⟩
      · exact old (by rw [hd]; intro e2; injection e2 with e2; exact h1 e2.symm) h2
  induction h generalizing v with
  | nil => exact .inr ⟨fun j r hj => by simp at hj, hv⟩
  | @run L d x u s hc hw he hok ih => exact key (y := ⟨x, d, some (u, s)⟩) (fun v hv => ih hv) rfl v hv
  | @skip L d x hc hw ih => exact key (y := ⟨x, d, none⟩) (fun v hv => ih hv) rfl v hv
end
end Go.Ev
end
/- ev: drawn regions: what the run in the order of the text knows. No program. -/
section
namespace Go.Ev
open Go.RowKit Go.Own
variable {P : Program}
theorem mem_rangeD {H : Tr (List C)} {p : Nat × Option (List C)} : ∀ {n lo : Nat}, p ∈ rangeD H lo n ↔ p.2 = H.get p.1 ∧ lo ≤ p.1 ∧ p.1 < lo + n
  | 0, lo => by simp [rangeD]
  | n + 1, lo => by
    simp only [rangeD, List.mem_cons, mem_rangeD]
    constructor
    · rintro (rfl | ⟨h1, h2, h3⟩)
      · exact ⟨rfl, Nat.le_refl _, by omega⟩
      · exact ⟨h1, by omega, by omega⟩
    · rintro ⟨h1, h2, h3⟩
      by_cases e : p.1 = lo
      · left
        obtain ⟨p1, p2⟩ := p
        simp only at e h1
        subst e; rw [h1]
      · exact .inr ⟨h1, by omega, by omega⟩
theorem mem_delta {H : Tr (List C)} {lo hi : Nat} {lg : List Nat} {p : Nat × Option (List C)} (hle : lo ≤ hi) : p ∈ deltaOf H lo hi lg ↔ p.2 = H.get p.1 ∧ (p.1 ∈ lg ∨ (lo ≤ p.1 ∧ p.1 < hi)) := by
  simp only [deltaOf, List.mem_append, List.mem_map, mem_rangeD]
  constructor
  · rintro (⟨k, h1, rfl⟩ | ⟨h1, h2, h3⟩)
    · exact ⟨rfl, .inl h1⟩
    · exact ⟨h1, .inr ⟨h2, by omega⟩⟩
  · rintro ⟨h1, h2 | h2⟩
    · left
      exact ⟨p.1, h2, by rw [← h1]⟩
    · exact .inr ⟨h1, h2.1, by omega⟩
theorem setAll_get : ∀ {δ : Delta} {H : Tr (List C)} {b : Nat} {l : List C}, (setAll H δ).get b = some l → (∃ p ∈ δ, p.1 = b ∧ p.2 = some l) ∨ ((∀ p ∈ δ, p.1 ≠ b) ∧ H.get b = some l)
  | [], H, b, l, h => .inr ⟨fun p hp => (List.not_mem_nil hp).elim, h⟩
  | (k, x) :: r, H, b, l, h => by
    rcases setAll_get (δ := r) (H := H.set depth k x) h with ⟨p, h1, h2⟩ | ⟨h1, h2⟩
    · exact .inl ⟨p, by simp [h1], h2⟩
    · rcases Tr.get_set _ _ _ _ _ _ h2 with ⟨rfl, h3⟩ | ⟨h3, h4⟩
      · exact .inl ⟨(b, x), by simp, rfl, h3⟩
      · refine .inr ⟨fun p hp => ?_, h4⟩
        rcases List.mem_cons.1 hp with rfl | hp
        · exact fun e => h3 e.symm
        · exact h1 p hp
section
variable {call : FuncId → List A → S → Rs} {H0 : Tr (List C)} {d0 : Dr}
theorem Ch.nx {L : List Rc} {d : Dr} (h : Ch P call H0 d0 L d) : d0.nx ≤ d.nx ∧ ∀ (k : Nat) (r : Rc) (v : A) (s : S), L[k]? = some r → r.out = some (v, s) → r.d.nx ≤ s.nx ∧ s.nx ≤ d.nx := by
  induction h with
  | nil => exact ⟨Nat.le_refl _, fun k r v s hk => by simp at hk⟩
  | @run L d x u s hc hw he hok ih =>
    have hle : d.nx ≤ s.nx := by
      unfold okNext at hok
      simp only [Bool.and_eq_true] at hok
      exact Nat.le_of_ble_eq_true hok.1.1
    refine ⟨Nat.le_trans ih.1 hle, fun k r v s' hk ho => ?_⟩
    rcases app_get hk with h1 | ⟨rfl, rfl⟩
    · obtain ⟨h2, h3⟩ := ih.2 k r v s' h1 ho
      exact ⟨h2, Nat.le_trans h3 hle⟩
    · injection ho with ho; injection ho with h1 h2; subst h2
      exact ⟨hle, Nat.le_refl _⟩
  | @skip L d x hc hw ih =>
    refine ⟨ih.1, fun k r v s' hk ho => ?_⟩
    rcases app_get hk with h1 | ⟨rfl, rfl⟩
    · exact ih.2 k r v s' h1 ho
    · cases ho
theorem Ch.lg {L : List Rc} {d : Dr} (h : Ch P call H0 d0 L d) : (∀ b ∈ d0.lg, b ∈ d.lg) ∧ ∀ (k : Nat) (r : Rc) (v : A) (s : S), L[k]? = some r → r.out = some (v, s) → ∀ b ∈ s.lg, b ∈ d.lg ∧ b < r.d.nx := by
  induction h with
  | nil => exact ⟨fun _ h => h, fun k r v s hk => by simp at hk⟩
  | @run L d x u s hc hw he hok ih =>
    refine ⟨fun b hb => List.mem_append_right _ (ih.1 b hb), fun k r v s' hk ho b hb => ?_⟩
    rcases app_get hk with h1 | ⟨rfl, rfl⟩
    · exact ⟨List.mem_append_right _ (ih.2 k r v s' h1 ho b hb).1, (ih.2 k r v s' h1 ho b hb).2⟩
    · injection ho with ho; injection ho with h1 h2; subst h2
      refine ⟨List.mem_append_left _ hb, ?_⟩
      unfold okNext at hok
      simp only [Bool.and_eq_true] at hok
      have := List.all_eq_true.1 hok.1.2 b hb
      simpa using this
  | @skip L d x hc hw ih =>
    refine ⟨ih.1, fun k r v s' hk ho => ?_⟩
    rcases app_get hk with h1 | ⟨rfl, rfl⟩
    · exact ih.2 k r v s' h1 ho
    · cases ho
theorem Ch.fpA {L : List Rc} {d : Dr} (h : Ch P call H0 d0 L d) (h0 : d0.fp = []) : ∀ f ∈ d.fp, ∃ (k : Nat) (r : Rc) (v : A) (s : S), L[k]? = some r ∧ r.out = some (v, s) ∧ f = fpOf r.d r.x k s := by
  induction h with
  | nil => intro f hf; rw [h0] at hf; cases hf
  | @run L d x u s hc hw he hok ih =>
    intro f hf
    simp only [Dr.next] at hf
    split at hf
    · obtain ⟨k, r, v, s', h1, h2⟩ := ih f hf
      exact ⟨k, r, v, s', app_old h1, h2⟩
    · rcases List.mem_cons.1 hf with rfl | hf
      · exact ⟨L.length, ⟨x, d, some (u, s)⟩, u, s, by simp, rfl, rfl⟩
      · obtain ⟨k, r, v, s', h1, h2⟩ := ih f hf
        exact ⟨k, r, v, s', app_old h1, h2⟩
  | @skip L d x hc hw ih =>
    intro f hf
    obtain ⟨k, r, v, s', h1, h2⟩ := ih f hf
    exact ⟨k, r, v, s', app_old h1, h2⟩
theorem Ch.fpB {L : List Rc} {d : Dr} (h : Ch P call H0 d0 L d) {k : Nat} {r : Rc} {v : A} {s : S} (hk : L[k]? = some r) (ho : r.out = some (v, s)) (hn : ¬ (r.x.op.quiet = true ∧ r.d.nx = s.nx ∧ s.lg = [])) : fpOf r.d r.x k s ∈ d.fp := by
  induction h with
  | nil => simp at hk
  | @run L d x u s' hc hw he hok ih =>
    simp only [Dr.next]
    rcases app_get hk with h1 | ⟨rfl, rfl⟩
    · split
      · exact ih h1
      · exact List.mem_cons_of_mem _ (ih h1)
    · injection ho with ho; injection ho with h1 h2; subst h2
      rw [if_neg]
      · exact List.mem_cons_self ..
      · intro hc2
        simp only [Bool.and_eq_true, List.isEmpty_iff] at hc2
        exact hn ⟨hc2.1.1, Nat.eq_of_beq_eq_true hc2.1.2, hc2.2⟩
  | @skip L d x hc hw ih =>
    rcases app_get hk with h1 | ⟨rfl, rfl⟩
    · exact ih h1
    · cases ho
theorem foot_quiet {T : Tr A} {i : I} (h : i.quiet = true) : i.foot T = [] ∧ i.isCall = false := by
  cases i <;> simp [I.quiet, I.foot, I.isCall] at h ⊢
/-- Operations in no order stand apart. -/
theorem Ch.apart {L : List Rc} {d : Dr} (h : Ch P call H0 d0 L d) (hok : fpOk d.fp = true) {k k' : Nat} {r r' : Rc} {v v' : A} {s s' : S} (hk : L[k]? = some r) (ho : r.out = some (v, s)) (hk' : L[k']? = some r') (ho' : r'.out = some (v', s'))
    (hne : k ≠ k') (h1 : r.x.bef.testBit k' = false) (h2 : r'.x.bef.testBit k = false) {b : Nat} (hb : b ∈ s'.lg) : ¬ r.has b ∧ b ∉ r.x.op.foot r.d.T ∧ ¬ (r.x.op.isCall = true ∧ r'.x.op.isCall = true) := by
  have hf' := h.fpB hk' ho' (fun hc => by rw [hc.2.2] at hb; cases hb)
  by_cases hq : r.x.op.quiet = true ∧ r.d.nx = s.nx ∧ s.lg = []
  · obtain ⟨q1, q2, q3⟩ := hq
    obtain ⟨q4, q5⟩ := foot_quiet (T := r.d.T) q1
    refine ⟨?_, by rw [q4]; simp, by rw [q5]; simp⟩
    rintro ⟨v2, s2, e, h3⟩
    rw [ho] at e; injection e with e; injection e with _ e; subst e
    rw [q3] at h3
    rcases h3 with h3 | h3
    · cases h3
    · omega
  · have hf := h.fpB hk ho hq
    unfold fpOk at hok
    have h3 := List.all_eq_true.1 hok _ hf'
    rw [Bool.or_eq_true] at h3
    rcases h3 with h3 | h3
    · simp only [fpOf, List.isEmpty_iff] at h3
      rw [h3] at hb; cases hb
    · have h4 := List.all_eq_true.1 h3 _ hf
      unfold apartFp at h4
      simp only [fpOf, h1, h2, Bool.or_false, Bool.or_eq_true, Bool.and_eq_true, Bool.not_eq_true', Bool.and_eq_false_iff, List.any_eq_false] at h4
      replace h4 := h4.resolve_left (fun e => hne (Nat.eq_of_beq_eq_true e))
      have h5 := h4.2 b hb
      simp only [not_or] at h5
      refine ⟨?_, ?_, ?_⟩
      · rintro ⟨v2, s2, e, h6⟩
        rw [ho] at e; injection e with e; injection e with _ e; subst e
        rcases h6 with h6 | h6
        · exact h5.1.2 (by simpa using h6)
        · refine h5.2 ?_
          simp only [inR, Bool.and_eq_true]
          exact ⟨Nat.ble_eq_true_of_le h6.1, by simpa using h6.2⟩
      · intro h6
        exact h5.1.1 (by simpa using h6)
      · rintro ⟨h6, h7⟩
        rcases h4.1 with h8 | h8
        · rw [h6] at h8; cases h8
        · rw [h7] at h8; cases h8
/-- The memory of a set of operations. -/
theorem Ch.over {L : List Rc} {d : Dr} (h : Ch P call H0 d0 L d) (h0 : d0.rs = []) {m b : Nat} {l : List C} (hg : (overlay H0 m d.rs).get b = some l) :
    (∃ (k : Nat) (r : Rc) (v : A) (s : S), L[k]? = some r ∧ m.testBit k = true ∧ r.has b ∧ r.out = some (v, s) ∧ s.H.get b = some l ∧ ∀ (k' : Nat) (r' : Rc), k < k' → L[k']? = some r' → m.testBit k' = true → ¬ r'.has b) ∨
    ((∀ (k : Nat) (r : Rc), L[k]? = some r → m.testBit k = true → ¬ r.has b) ∧ H0.get b = some l) := by
  induction h with
  | nil =>
    rw [h0] at hg
    exact .inr ⟨fun k r hk => by simp at hk, hg⟩
  | @run L d x u s hc hw he hok ih =>
    have hle : d.nx ≤ s.nx := by
      unfold okNext at hok
      simp only [Bool.and_eq_true] at hok
      exact Nat.le_of_ble_eq_true hok.1.1
    -- the last one does not have the name, or is not asked for
    have old : (m.testBit L.length = true → ¬ (Rc.mk x d (some (u, s))).has b) → (overlay H0 m d.rs).get b = some l → (∃ (k : Nat) (r : Rc) (v : A) (s' : S), (L ++ [Rc.mk x d (some (u, s))])[k]? = some r ∧ m.testBit k = true ∧ r.has b ∧ r.out = some (v, s') ∧ s'.H.get b = some l ∧ ∀ (k' : Nat) (r' : Rc), k < k' → (L ++ [Rc.mk x d (some (u, s))])[k']? = some r' → m.testBit k' = true → ¬ r'.has b) ∨
        ((∀ (k : Nat) (r : Rc), (L ++ [Rc.mk x d (some (u, s))])[k]? = some r → m.testBit k = true → ¬ r.has b) ∧ H0.get b = some l) := by
      intro hn hg
      rcases ih hg with ⟨k, r, v, s', h1, h2, h3, h4, h5, h6⟩ | ⟨h1, h2⟩
      · refine .inl ⟨k, r, v, s', app_old h1, h2, h3, h4, h5, fun k' r' hlt hk' hm => ?_⟩
        rcases app_get hk' with h7 | ⟨rfl, rfl⟩
        · exact h6 k' r' hlt h7 hm
        · exact hn hm
      · refine .inr ⟨fun k r hk hm => ?_, h2⟩
        rcases app_get hk with h7 | ⟨rfl, rfl⟩
        · exact h1 k r h7 hm
        · exact hn hm
    simp only [Dr.next] at hg
    split at hg
    · rename_i hemp
      refine old (fun _ ⟨v2, s2, e, h3⟩ => ?_) hg
      injection e with e; injection e with _ e; subst e
      have : (b, s.H.get b) ∈ deltaOf s.H d.nx s.nx s.lg := (mem_delta hle).2 ⟨rfl, h3⟩
      rw [List.isEmpty_iff.1 hemp] at this
      cases this
    · simp only [overlay] at hg
      split at hg
      · rename_i hbit
        rcases setAll_get hg with ⟨p, h1, rfl, h2⟩ | ⟨h1, h2⟩
        · obtain ⟨h3, h4⟩ := (mem_delta hle).1 h1
          refine .inl ⟨L.length, ⟨x, d, some (u, s)⟩, u, s, by simp, hbit, ⟨u, s, rfl, h4⟩, rfl, by rw [← h3]; exact h2, fun k' r' hlt hk' => ?_⟩
          have := get_lt hk'
          simp at this; omega
        · refine old (fun _ ⟨v2, s2, e, h3⟩ => ?_) h2
          injection e with e; injection e with _ e; subst e
          exact h1 (b, s.H.get b) ((mem_delta hle).2 ⟨rfl, h3⟩) rfl
      · rename_i hbit
        exact old (fun hm => by rw [hbit] at hm; cases hm) hg
  | @skip L d x hc hw ih =>
    have hno : ¬ (Rc.mk x d none).has b := fun ⟨v2, s2, e, _⟩ => by cases e
    rcases ih hg with ⟨k, r, v, s', h1, h2, h3, h4, h5, h6⟩ | ⟨h1, h2⟩
    · refine .inl ⟨k, r, v, s', app_old h1, h2, h3, h4, h5, fun k' r' hlt hk' hm => ?_⟩
      rcases app_get hk' with h7 | ⟨rfl, rfl⟩
      · exact h6 k' r' hlt h7 hm
      · exact hno
    · refine .inr ⟨fun k r hk hm => ?_, h2⟩
      rcases app_get hk with h7 | ⟨rfl, rfl⟩
      · exact h1 k r h7 hm
      · exact hno
/-- Names that came out of an operation. -/
theorem Ch.names {L : List Rc} {d : Dr} (h : Ch P call H0 d0 L d) (h0 : d0.fp = []) {k : Nat} {r : Rc} {v : A} {s : S} (hk : L[k]? = some r) (ho : r.out = some (v, s)) {q : Nat}
    (hq : q ∈ v.names ∨ ∃ b l, r.has b ∧ s.H.get b = some l ∧ ∃ y ∈ l, q ∈ y.name) :
    q < d0.nx ∨ r.d.nx ≤ q ∨ ∃ (j : Nat) (r' : Rc) (v' : A) (s' : S), j < k ∧ L[j]? = some r' ∧ r'.out = some (v', s') ∧ r.x.bef.testBit j = true ∧ r'.d.nx ≤ q ∧ q < s'.nx := by
  obtain ⟨h1, _, h3⟩ := h.at_ hk
  obtain ⟨_, hok⟩ := h3 v s ho
  unfold okNext at hok
  simp only [Bool.and_eq_true] at hok
  obtain ⟨⟨hle, _⟩, hn⟩ := hok
  unfold okNames at hn
  rw [Bool.and_eq_true] at hn
  have key : okName d0.nx r.d r.x q = true := by
    rcases hq with hq | ⟨b, l, ⟨v2, s2, e, hb⟩, hl, y, hy, hq⟩
    · exact List.all_eq_true.1 hn.1 q hq
    · rw [ho] at e; injection e with e; injection e with _ e; subst e
      have h4 := List.all_eq_true.1 hn.2 (b, s.H.get b) ((mem_delta (Nat.le_of_ble_eq_true hle)).2 ⟨rfl, hb⟩)
      simp only [hl] at h4
      exact List.all_eq_true.1 (List.all_eq_true.1 h4 y hy) q hq
  unfold okName at key
  simp only [Bool.or_eq_true] at key
  rcases key with (h4 | h4) | h4
  · exact .inl (by simpa using h4)
  · exact .inr (.inl (Nat.le_of_ble_eq_true h4))
  · right; right
    obtain ⟨f, hf, h5⟩ := List.any_eq_true.1 h4
    rw [Bool.and_eq_true] at h5
    obtain ⟨j, r', v', s', h6, h7, rfl⟩ := h1.fpA h0 f hf
    have hj := get_lt h6
    simp only [fpOf, inR, Bool.and_eq_true] at h5
    refine ⟨j, r', v', s', by simp at hj; omega, ?_, h7, h5.1, Nat.le_of_ble_eq_true h5.2.1, by simpa using h5.2.2⟩
    rw [List.getElem?_take] at h6
    split at h6
    · exact h6
    · cases h6
end
end Go.Ev
end
/- ev: drawn regions: one operation, whatever ran ahead of it. No program. -/
section
namespace Go.Ev
open Go.RowKit Go.Own
variable {P : Program}
structure Ctx (P : Program) (call : FuncId → List A → S → Rs) (H0 : Tr (List C)) (d0 : Dr) (L : List Rc) (d' : Dr) (ops : Array Oper) (nt : Nat) (g0 : Gh) (w0 : World) : Prop where
  ch : Ch P call H0 d0 L d'
  fp0 : d0.fp = []
  rs0 : d0.rs = []
  ok : fpOk d'.fp = true
  st : statOk (L.map (·.x)) = true
  al : ∀ (k : Nat) (o : Oper), ops[k]? = some o → ∃ r : Rc, L[k]? = some r ∧ AlX P nt ops o r.x k (fun q => (L.map (·.x.bef)).getD q 0)
  len : L.length = ops.size
  sim : Sim H0.get g0 d0.nx w0
section
variable {call : FuncId → List A → S → Rs} {H0 : Tr (List C)} {d0 d' : Dr} {L : List Rc} {ops : Array Oper} {nt : Nat} {g0 : Gh} {w0 : World}
theorem Ctx.stat (c : Ctx P call H0 d0 L d' ops nt g0 w0) {i j : Nat} {ri rj : Rc} (hi : L[i]? = some ri) (hj : L[j]? = some rj) (hne : i ≠ j) :
    (ri.x.bef.testBit j = true → j < i ∧ ∀ q, rj.x.bef.testBit q = true → ri.x.bef.testBit q = true) ∧
    (ri.x.bef.testBit j = true ∨ rj.x.bef.testBit i = true ∨ ¬ (ri.x.op.write = true ∧ rj.x.op.isCall = true)) ∧
    (∀ d, ri.x.dst = some d → rj.x.dst ≠ some d ∧ (d ∈ rj.x.reads → rj.x.bef.testBit i = true ∨ ri.x.bef.testBit j = true)) := by
  have h1 := c.st
  unfold statOk at h1
  have hmi : (ri.x, i) ∈ (L.map (·.x)).zipIdx := by rw [List.mem_zipIdx_iff_getElem?]; simp [hi]
  have hmj : (rj.x, j) ∈ (L.map (·.x)).zipIdx := by rw [List.mem_zipIdx_iff_getElem?]; simp [hj]
  have h2 := List.all_eq_true.1 (List.all_eq_true.1 h1 _ hmi) _ hmj
  simp only [Bool.or_eq_true, Bool.and_eq_true] at h2
  replace h2 := h2.resolve_left (fun e => hne (Nat.eq_of_beq_eq_true e))
  obtain ⟨⟨h3, h4⟩, h5⟩ := h2
  refine ⟨fun hb => ?_, ?_, fun d hd => ?_⟩
  · rcases h3 with h3 | h3
    · rw [hb] at h3; cases h3
    · refine ⟨by simpa using h3.1, fun q hq => ?_⟩
      have e := Nat.eq_of_beq_eq_true h3.2
      rw [← e, Nat.testBit_or, hq]; rfl
  · rcases h4 with (h4 | h4) | h4
    · exact .inl h4
    · exact .inr (.inl h4)
    · right; right
      rintro ⟨h6, h7⟩
      rw [h6, h7] at h4; cases h4
  · rw [hd] at h5
    simp only [Bool.and_eq_true, Bool.or_eq_true, bne_iff_ne, ne_eq] at h5
    refine ⟨h5.1, fun hr => ?_⟩
    rcases h5.2 with (h6 | h6) | h6
    · simp at h6; exact absurd hr h6
    · exact .inl h6
    · exact .inr h6
theorem Ctx.oper (c : Ctx P call H0 d0 L d' ops nt g0 w0) {k : Nat} {r : Rc} (hk : L[k]? = some r) : ∃ o, ops[k]? = some o ∧ AlX P nt ops o r.x k (fun q => (L.map (·.x.bef)).getD q 0) := by
  have hlt : k < ops.size := by rw [← c.len]; exact get_lt hk
  obtain ⟨r', h1, h2⟩ := c.al k ops[k] (by simp [hlt])
  rw [hk] at h1; injection h1 with h1; subst h1
  exact ⟨_, by simp [hlt], h2⟩
theorem Ctx.bitlt (c : Ctx P call H0 d0 L d' ops nt g0 w0) : ∀ (k : Nat) {r : Rc} {j : Nat}, L[k]? = some r → r.x.bef.testBit j = true → j < k := by
  intro k
  induction k using Nat.strongRecOn with
  | _ k ih =>
    intro r j hk hj
    obtain ⟨o, _, h2⟩ := c.oper hk
    obtain ⟨e, h3, h4, h5⟩ := h2.bit j hj
    have h6 := h2.lt e h3 h4
    rcases h5 with h5 | h5
    · omega
    · have h7 : e.on < L.length := by have := get_lt hk; omega
      have h8 : L[e.on]? = some L[e.on] := by simp [h7]
      have h9 : (L.map (·.x.bef)).getD e.on 0 = L[e.on].x.bef := by simp [List.getD_eq_getElem?_getD, h7]
      rw [h9] at h5
      have := ih e.on h6 h8 h5
      omega
/-- Later operations make later names. -/
theorem Ctx.later (c : Ctx P call H0 d0 L d' ops nt g0 w0) {j k : Nat} {rj rk : Rc} {v : A} {s : S} (hj : L[j]? = some rj) (ho : rj.out = some (v, s)) (hk : L[k]? = some rk) (hlt : j < k) : s.nx ≤ rk.d.nx := by
  have h1 := (c.ch.at_ hk).1.nx.2 j rj v s (by rw [List.getElem?_take_of_lt hlt]; exact hj) ho
  exact h1.2
theorem Ctx.nxle (c : Ctx P call H0 d0 L d' ops nt g0 w0) {k : Nat} {r : Rc} (hk : L[k]? = some r) : d0.nx ≤ r.d.nx := (c.ch.at_ hk).1.nx.1
/-- What the operations of a set left. -/
def Nm (L : List Rc) (n0 : Nat) (S : Nat → Prop) (q : Nat) : Prop := q < n0 ∨ ∃ (k : Nat) (r : Rc) (v : A) (s : Ev.S), S k ∧ L[k]? = some r ∧ r.out = some (v, s) ∧ r.d.nx ≤ q ∧ q < s.nx
def Rc.hi (r : Rc) : Nat := match r.out with
  | some (_, s) => s.nx
  | none => 0
structure Inv (L : List Rc) (H0 : Tr (List C)) (d0 d' : Dr) (g0 : Gh) (w0 : World) (a0 : Act) (S : Nat → Prop) (a : Act) (w : World) (g : Gh) (G : Mem) : Prop where
  z : Step (· ∈ d'.lg) H0.get g0 d0.nx w0 G g d'.nx w
  mem : ∀ b, (∃ (k : Nat) (r : Rc) (v : A) (s : Ev.S), S k ∧ L[k]? = some r ∧ r.out = some (v, s) ∧ r.has b ∧ (∀ (k' : Nat) (r' : Rc), k < k' → S k' → L[k']? = some r' → ¬ r'.has b) ∧ G b = s.H.get b) ∨
    ((∀ (k : Nat) (r : Rc), S k → L[k]? = some r → ¬ r.has b) ∧ G b = H0.get b)
  nam : ∀ b l, G b = some l → ∀ y ∈ l, ∀ q ∈ y.name, Nm L d0.nx S q
  new : ∀ (k : Nat) (r : Rc) (t : Nat), S k → L[k]? = some r → r.x.dst = some t → RA g w r.val (a.tmps.getD t undef) ∧ r.val.lt r.hi ∧ ∀ q ∈ r.val.names, Nm L d0.nx S q
  old : ∀ t v, (∀ (k : Nat) (r : Rc), S k → L[k]? = some r → r.x.dst ≠ some t) → d0.T.get t = some v → RA g w v (a.tmps.getD t undef)
  cl : ∀ (k : Nat) (r : Rc), S k → L[k]? = some r → ∀ j, r.x.bef.testBit j = true → S j
  blt : ∀ (k : Nat) (r : Rc) (v : A) (s : Ev.S), S k → L[k]? = some r → r.out = some (v, s) → ∀ b l, r.has b → s.H.get b = some l → b < s.nx ∧ ∀ y ∈ l, y.lt s.nx
  dfr : a.defers = a0.defers
  sz : a.tmps.size = a0.tmps.size
variable {a0 a : Act} {S : Nat → Prop} {w : World} {g : Gh} {G : Mem}
theorem has_or {r : Rc} {v : A} {s : Ev.S} {b : Nat} (ho : r.out = some (v, s)) (h : r.has b) : b ∈ s.lg ∨ (r.d.nx ≤ b ∧ b < s.nx) := by
  obtain ⟨v2, s2, e, h⟩ := h
  rw [ho] at e; injection e with e; injection e with _ e; subst e
  exact h
/-- Two operations that had to do with one name stand in order. -/
theorem Ctx.ord (c : Ctx P call H0 d0 L d' ops nt g0 w0) {i k : Nat} {ri rk : Rc} (hi : L[i]? = some ri) (hk : L[k]? = some rk) (hne : i ≠ k) {b : Nat} (h1 : ri.has b) (h2 : rk.has b) : ri.x.bef.testBit k = true ∨ rk.x.bef.testBit i = true := by
  obtain ⟨vi, si, oi, c1⟩ := h1
  obtain ⟨vk, sk, ok, c2⟩ := h2
  cases e1 : ri.x.bef.testBit k with
  | true => exact .inl rfl
  | false =>
    cases e2 : rk.x.bef.testBit i with
    | true => exact .inr rfl
    | false =>
      exfalso
      rcases c1 with c1 | c1
      · exact (c.ch.apart c.ok hk ok hi oi (Ne.symm hne) e2 e1 c1).1 ⟨vk, sk, ok, c2⟩
      · rcases c2 with c2 | c2
        · exact (c.ch.apart c.ok hi oi hk ok hne e1 e2 c2).1 ⟨vi, si, oi, .inr c1⟩
        · rcases Nat.lt_or_gt_of_ne hne with h | h
          · have := c.later hi oi hk h; omega
          · have := c.later hk ok hi h; omega
theorem Ctx.ordS (c : Ctx P call H0 d0 L d' ops nt g0 w0) (hI : Inv L H0 d0 d' g0 w0 a0 S a w g G) {i k : Nat} {ri rk : Rc} (hi : L[i]? = some ri) (hk : L[k]? = some rk) (hni : ¬ S i) (hSk : S k) {b : Nat} (h1 : ri.has b) (h2 : rk.has b) : ri.x.bef.testBit k = true := by
  have hne : i ≠ k := fun e => hni (e ▸ hSk)
  rcases c.ord hi hk hne h1 h2 with h | h
  · exact h
  · exact absurd (hI.cl k rk hSk hk i h) hni
theorem Ctx.slotAt (c : Ctx P call H0 d0 L d' ops nt g0 w0) (hI : Inv L H0 d0 d' g0 w0 a0 S a w g G) (hf : ∀ t v, d0.T.get t = some v → v.lt d0.nx ∧ t < a0.tmps.size) (hnt : nt ≤ a0.tmps.size) {i : Nat} {ri : Rc} (hi : L[i]? = some ri) (hni : ¬ S i) (hb : ∀ j, ri.x.bef.testBit j = true → S j)
    {t : Nat} {v : A} (ht : t ∈ ri.x.reads) (hv : ri.d.T.get t = some v) : RA g w v (a.tmps.getD t undef) ∧ v.lt ri.d.nx ∧ t < a.tmps.size := by
  have hci := (c.ch.at_ hi).1
  rcases hci.slot hv with ⟨j, rj, h1, h2, rfl⟩ | ⟨h1, h2⟩
  · have hlt : j < i := by have := get_lt h1; simp at this; omega
    rw [List.getElem?_take_of_lt hlt] at h1
    have h3 := (c.stat h1 hi (by omega)).2.2 t h2
    have hSj : S j := by
      rcases h3.2 ht with h4 | h4
      · exact hb j h4
      · have := c.bitlt j h1 h4; omega
    obtain ⟨h4, h5, _⟩ := hI.new j rj t hSj h1 h2
    obtain ⟨o, _, hal⟩ := c.oper h1
    refine ⟨h4, ?_, ?_⟩
    · cases ho : rj.out with
      | none => unfold Rc.val; rw [ho]; exact (undef_rel g w _).2
      | some p =>
        obtain ⟨q, s⟩ := p
        refine alt_mono ?_ h5
        unfold Rc.hi; rw [ho]
        exact c.later h1 ho hi hlt
    · rw [hI.sz]
      exact Nat.lt_of_lt_of_le (hal.al.lt t (by rw [← hal.al.dst]; exact h2)) hnt
  · obtain ⟨h3, h4⟩ := hf t v h2
    refine ⟨hI.old t v (fun k r hSk hk e => ?_) h2, alt_mono (c.nxle hi) h3, by rw [hI.sz]; exact h4⟩
    have hne : k ≠ i := fun e2 => hni (e2 ▸ hSk)
    rcases Nat.lt_or_gt_of_ne hne with h | h
    · exact h1 k r (by rw [List.getElem?_take_of_lt h]; exact hk) e
    · rcases ((c.stat hk hi hne).2.2 t e).2 ht with h5 | h5
      · have := c.bitlt i hi h5; omega
      · exact hni (hI.cl k r hSk hk i h5)
theorem footMem_get {H : Tr (List C)} {b : Nat} {l : List C} : ∀ {f : List Nat}, (footMem H f).get b = some l → b ∈ f ∧ H.get b = some l
  | [], h => by simp [footMem, Tr.get_e] at h
  | k :: r, h => by
    simp only [footMem] at h
    rcases Tr.get_set _ _ _ _ _ _ h with ⟨rfl, h2⟩ | ⟨_, h2⟩
    · exact ⟨by simp, h2⟩
    · obtain ⟨h3, h4⟩ := footMem_get h2
      exact ⟨by simp [h3], h4⟩
theorem new_lg {s s' : Ev.S} {x : A} {l : List C} {r : A} (h : (some (x, s.new l) : Rs) = some (r, s')) : s'.lg = s.lg := by
  injection h with h; injection h with _ h; subst h; rfl
theorem lg_same {call : FuncId → List A → Ev.S → Rs} {T : Tr A} {s s' : Ev.S} {r : A} {i : I} (h1 : i.write = false) (h2 : i.isCall = false) (he : evI P call T s i = some (r, s')) : s'.lg = s.lg := by
  have hid : ∀ {x : A}, (some (x, s) : Rs) = some (r, s') → s'.lg = s.lg := fun h => by injection h with h; injection h with _ h; subst h; rfl
  cases i with
  | mv x => obtain ⟨_, rfl⟩ := mv_same he; rfl
  | pick z x y =>
    simp only [evI_kPick, kPick] at he
    split at he
    · obtain ⟨_, rfl⟩ := mv_same he; rfl
    · obtain ⟨_, rfl⟩ := mv_same he; rfl
    · cases he
  | new l => exact new_lg he
  | box x =>
    simp only [evI_kBox, kBox] at he
    split at he
    · exact new_lg he
    · cases he
  | build z ps =>
    simp only [evI_kBuild, kBuild] at he
    split at he
    · exact hid he
    · cases he
  | lit z len n ps =>
    simp only [evI_kLit, kLit] at he
    split at he
    · exact new_lg he
    · cases he
  | make z n x y =>
    simp only [evI_kMake, kMake] at he
    split at he
    · split at he
      · exact new_lg he
      · cases he
    · cases he
  | nil x =>
    simp only [evI_kNil, kNil] at he
    split at he <;> first | exact hid he | cases he
  | fa off x =>
    simp only [evI_kFa, kFa] at he
    split at he <;> first | exact hid he | cases he
  | ia n x j =>
    simp only [evI_kIa, kIa] at he
    split at he
    · split at he
      · split at he <;> first | exact hid he | cases he
      · split at he <;> first | exact hid he | cases he
      · cases he
    · cases he
  | aa len n x j =>
    simp only [evI_kAa, kAa] at he
    split at he
    · split at he
      · split at he <;> first | exact hid he | cases he
      · cases he
    · cases he
  | ix len n ag x j =>
    simp only [evI_kIx, kIx] at he
    split at he
    · split at he
      · split at he
        · obtain ⟨_, rfl⟩ := mv_same he; rfl
        · cases he
      · cases he
    · cases he
  | cut n x lo hi mx =>
    simp only [evI_kCut, kCut] at he
    split at he
    · split at he
      · split at he <;> first | exact hid he | cases he
      · cases he
    · split at he <;> first | exact hid he | cases he
    · split at he <;> first | exact hid he | cases he
    · split at he
      · split at he <;> first | exact hid he | cases he
      · cases he
    · cases he
  | s2a n x =>
    simp only [evI_kS2a, kS2a] at he
    split at he
    · split at he <;> first | exact hid he | cases he
    · cases he
  | ext j x =>
    simp only [evI_kExt, kExt] at he
    split at he
    · split at he <;> first | exact hid he | cases he
    · cases he
  | mf f l =>
    simp only [evI_kMf, kMf] at he
    split at he <;> first | exact hid he | cases he
  | bin op ty x y =>
    simp only [evI_kBin, kBin] at he
    split at he
    · obtain ⟨_, rfl⟩ := mv_same he; rfl
    · obtain ⟨_, rfl⟩ := mv_same he; rfl
    · cases he
  | eqn k x neg =>
    simp only [evI_kEqn, kEqn] at he
    split at he <;> first | exact hid he | cases he
  | len x =>
    simp only [evI_kLen, kLen] at he
    split at he <;> first | exact hid he | cases he
  | gen o =>
    simp only [evI_kGen, kGen] at he
    obtain ⟨_, rfl⟩ := mv_same he; rfl
  | ld ag n x =>
    simp only [evI_kLd, kLd] at he
    split at he
    · split at he
      · obtain ⟨_, rfl⟩ := mv_same he; rfl
      · cases he
    · split at he <;> first | exact hid he | cases he
    · cases he
  | st n x y => simp [I.write] at h1
  | app n x y => simp [I.write] at h1
  | cpy n x y => simp [I.write] at h1
  | clr z x => simp [I.write] at h1
  | call f l => simp [I.isCall] at h2
/-- The memory that an operation ran on is there, whatever ran ahead of it. -/
theorem Ctx.memAt (c : Ctx P call H0 d0 L d' ops nt g0 w0) (hI : Inv L H0 d0 d' g0 w0 a0 S a w g G) {i : Nat} {ri : Rc} (hi : L[i]? = some ri) (hni : ¬ S i) (hb : ∀ j, ri.x.bef.testBit j = true → S j) {v : A} {s : Ev.S} (ho : ri.out = some (v, s))
    {b : Nat} {l : List C} (hg : (memOf H0 ri.d ri.x).H.get b = some l) : G b = some l ∧ b < ri.d.nx ∧ ∀ y ∈ l, y.lt ri.d.nx := by
  -- the operation is one of memory
  have hmem : (overlay H0 ri.x.bef ri.d.rs).get b = some l ∧ (ri.x.op.isCall = true ∨ b ∈ ri.x.op.foot ri.d.T) := by
    unfold memOf at hg
    cases hq : ri.x.op.quiet with
    | true => rw [hq] at hg; simp [Tr.get_e] at hg
    | false =>
      rw [hq] at hg
      cases hc : ri.x.op.isCall with
      | true => rw [hc] at hg; exact ⟨by simpa using hg, .inl rfl⟩
      | false =>
        rw [hc] at hg
        obtain ⟨h1, h2⟩ := footMem_get (by simpa using hg)
        exact ⟨h2, .inr h1⟩
  obtain ⟨hov, hfoot⟩ := hmem
  have hci := (c.ch.at_ hi).1
  have htake : ∀ {k : Nat} {r : Rc}, (L.take i)[k]? = some r → L[k]? = some r ∧ k < i := by
    intro k r h
    have hlt : k < i := by have := get_lt h; simp at this; omega
    rw [List.getElem?_take_of_lt hlt] at h
    exact ⟨h, hlt⟩
  -- who turned the name goes before this one
  have hlgc : ∀ (k : Nat) (r : Rc) (v2 : A) (s2 : Ev.S), S k → L[k]? = some r → r.out = some (v2, s2) → b ∈ s2.lg → ri.x.bef.testBit k = true := by
    intro k r v2 s2 hSk hk ho2 hbl
    have hne : i ≠ k := fun e => hni (e ▸ hSk)
    cases e1 : ri.x.bef.testBit k with
    | true => rfl
    | false =>
      exfalso
      have e2 : r.x.bef.testBit i = false := by
        cases e : r.x.bef.testBit i with
        | false => rfl
        | true => exact absurd (hI.cl k r hSk hk i e) hni
      obtain ⟨_, h2, h3⟩ := c.ch.apart c.ok hi ho hk ho2 hne e1 e2 hbl
      rcases hfoot with h4 | h4
      · have h5 : r.x.op.isCall = false := by
          cases e : r.x.op.isCall with
          | false => rfl
          | true => exact absurd ⟨h4, e⟩ h3
        have h6 : r.x.op.write = false := by
          cases e : r.x.op.write with
          | false => rfl
          | true =>
            rcases (c.stat hk hi (Ne.symm hne)).2.1 with q | q | q
            · rw [e2] at q; cases q
            · rw [e1] at q; cases q
            · exact absurd ⟨e, h4⟩ q
        have h7 := lg_same h6 h5 ((c.ch.at_ hk).2.2 v2 s2 ho2).1
        rw [h7] at hbl
        cases hbl
      · exact h2 h4
  rcases hci.over c.rs0 hov with ⟨k, rk, vk, sk, h1, h2, h3, h4, h5, h6⟩ | ⟨h1, h2⟩
  · obtain ⟨h1, hki⟩ := htake h1
    have hSk := hb k h2
    obtain ⟨b1, b2⟩ := hI.blt k rk vk sk hSk h1 h4 b l h3 h5
    have hle := c.later h1 h4 hi hki
    refine ⟨?_, by omega, fun y hy => lt_mono hle (b2 y hy)⟩
    rcases hI.mem b with ⟨k2, r2, v2, s2, m1, m2, m3, m4, m5, m6⟩ | ⟨m1, m2⟩
    · have hk2 : ri.x.bef.testBit k2 = true := by
        rcases has_or m3 m4 with m7 | m7
        · exact hlgc k2 r2 v2 s2 m1 m2 m3 m7
        · by_cases e : k2 = k
          · rw [e]; exact h2
          · rcases c.ord m2 h1 e m4 h3 with q | q
            · -- k goes before k2: its name is older
              have hlt := c.bitlt k2 m2 q
              rcases has_or h4 h3 with q2 | q2
              · have := (c.ch.lg.2 k rk vk sk h1 h4 b q2).2
                have := (c.ch.nx.2 k rk vk sk h1 h4).1
                have := c.later h1 h4 m2 hlt
                omega
              · have := c.later h1 h4 m2 hlt
                omega
            · exact (c.stat hi h1 (by omega)).1 h2 |>.2 k2 q
      have hk2i := c.bitlt i hi hk2
      have : k2 = k := by
        rcases Nat.lt_trichotomy k2 k with e | e | e
        · exact absurd h3 (m5 k rk e hSk h1)
        · exact e
        · exact absurd m4 (h6 k2 r2 e (by rw [List.getElem?_take_of_lt hk2i]; exact m2) hk2)
      subst this
      rw [m2] at h1; injection h1 with h1; subst h1
      rw [m3] at h4; injection h4 with h4; injection h4 with _ h4; subst h4
      rw [m6]; exact h5
    · exact absurd h3 (m1 k rk hSk h1)
  · obtain ⟨b1, b2, _⟩ := c.sim.blk b l h2
    refine ⟨?_, Nat.lt_of_lt_of_le b1 (c.nxle hi), fun y hy => lt_mono (c.nxle hi) (b2 y hy)⟩
    rcases hI.mem b with ⟨k2, r2, v2, s2, m1, m2, m3, m4, m5, m6⟩ | ⟨m1, m2⟩
    · exfalso
      have hk2 : ri.x.bef.testBit k2 = true := by
        rcases has_or m3 m4 with m7 | m7
        · exact hlgc k2 r2 v2 s2 m1 m2 m3 m7
        · have := c.nxle m2; omega
      have hk2i := c.bitlt i hi hk2
      exact h1 k2 r2 (by rw [List.getElem?_take_of_lt hk2i]; exact m2) hk2 m4
    · rw [m2]; exact h2
end
end Go.Ev
end
