/- ev: drawn regions: in whatever order. No program. -/
import Derived.Test.YtkccmpikeekceaaGreatTQ18
/- ev: drawn regions: in whatever order. No program. -/
section
namespace Go.Ev
open Go.RowKit Go.Own
variable {P : Program}
section
variable {call : FuncId → List A → S → Rs} {H0 : Tr (List C)} {d0 d' : Dr} {L : List Rc} {ops : Array Oper} {nt : Nat} {g0 : Gh} {w0 : World}
variable {a0 a : Act} {S : Nat → Prop} {w : World} {g : Gh} {G : Mem}
theorem Sim.sub {K : Mem} {NX nx : Nat} (h : Sim G g NX w) (hK : ∀ b l, K b = some l → G b = some l ∧ b < nx ∧ ∀ y ∈ l, y.lt nx) : Sim K g nx w where
  blk := fun b l hb => by
    obtain ⟨h1, h2, h3⟩ := hK b l hb
    obtain ⟨_, _, h4⟩ := h.blk b l h1
    exact ⟨h2, h3, h4⟩
  inj := fun b b' hb hb' e => by
    refine h.inj b b' ?_ ?_ e
    · cases e1 : K b with
      | none => exact absurd e1 hb
      | some l => rw [(hK b l e1).1]; simp
    · cases e1 : K b' with
      | none => exact absurd e1 hb'
      | some l => rw [(hK b' l e1).1]; simp
  dsz := h.dsz
theorem put_other (a : Act) {dst : Option Tmp} (v : Value) {t : Nat} (h : dst ≠ some t) : (a.put dst v).tmps.getD t undef = a.tmps.getD t undef := by
  cases dst with
  | none => rfl
  | some d =>
    have : d ≠ t := fun e => h (by rw [e])
    simp [Act.put, Array.getD_eq_getD_getElem?, this]
theorem put_same (a : Act) {t : Nat} (v : Value) (h : t < a.tmps.size) : (a.put (some t) v).tmps.getD t undef = v := by
  simp [Act.put, Array.getD_eq_getD_getElem?, h]
theorem Nm.mono {S S' : Nat → Prop} {q : Nat} (h : ∀ k, S k → S' k) (hq : Nm L d0.nx S q) : Nm L d0.nx S' q := by
  rcases hq with hq | ⟨k, r, v, s, h1, h2⟩
  · exact .inl hq
  · exact .inr ⟨k, r, v, s, h k h1, h2⟩
/-- An operation that is not wanted. -/
theorem Inv.skip (c : Ctx P call H0 d0 L d' ops nt g0 w0) (hI : Inv L H0 d0 d' g0 w0 a0 S a w g G) (hnt : nt ≤ a0.tmps.size) {i : Nat} {ri : Rc} (hi : L[i]? = some ri) (hni : ¬ S i) (hb : ∀ j, ri.x.bef.testBit j = true → S j) (ho : ri.out = none) :
    Inv L H0 d0 d' g0 w0 a0 (fun k => S k ∨ k = i) (a.put ri.x.dst undef) w g G := by
  have hno : ∀ b, ¬ ri.has b := fun b ⟨v, s, e, _⟩ => by rw [ho] at e; cases e
  obtain ⟨o, _, hal⟩ := c.oper hi
  refine { z := hI.z, mem := ?_, nam := ?_, new := ?_, old := ?_, cl := ?_, blt := ?_, dfr := by rw [put_defers]; exact hI.dfr, sz := by rw [put_size]; exact hI.sz }
  · intro b
    rcases hI.mem b with ⟨k, r, v, s, m1, m2, m3, m4, m5, m6⟩ | ⟨m1, m2⟩
    · refine .inl ⟨k, r, v, s, .inl m1, m2, m3, m4, fun k' r' hlt hS hk' => ?_, m6⟩
      rcases hS with hS | rfl
      · exact m5 k' r' hlt hS hk'
      · rw [hi] at hk'; injection hk' with hk'; subst hk'; exact hno b
    · refine .inr ⟨fun k r hS hk => ?_, m2⟩
      rcases hS with hS | rfl
      · exact m1 k r hS hk
      · rw [hi] at hk; injection hk with hk; subst hk; exact hno b
  · exact fun b l hl y hy q hq => (hI.nam b l hl y hy q hq).mono fun k h => .inl h
  · intro k r t hS hk hd
    rcases hS with hS | rfl
    · have hne : k ≠ i := fun e => hni (e ▸ hS)
      obtain ⟨h1, h2, h3⟩ := hI.new k r t hS hk hd
      rw [put_other a undef ((c.stat hk hi hne).2.2 t hd).1]
      exact ⟨h1, h2, fun q hq => (h3 q hq).mono fun k h => .inl h⟩
    · rw [hi] at hk; injection hk with hk; subst hk
      have hv : ri.val = undefA := by unfold Rc.val; rw [ho]
      have hlt : t < a.tmps.size := by rw [hI.sz]; exact Nat.lt_of_lt_of_le (hal.al.lt t (by rw [← hal.al.dst]; exact hd)) hnt
      rw [hv, hd, put_same a undef hlt]
      exact ⟨(undef_rel g w 0).1, (undef_rel g w _).2, fun q hq => by simp [undefA, A.names] at hq⟩
  · intro t v hS ht
    rw [put_other a undef (hS i ri (.inr rfl) hi)]
    exact hI.old t v (fun k r h => hS k r (.inl h)) ht
  · intro k r hS hk j hj
    rcases hS with hS | rfl
    · exact .inl (hI.cl k r hS hk j hj)
    · rw [hi] at hk; injection hk with hk; subst hk
      exact .inl (hb j hj)
  · intro k r v s hS hk ho2
    rcases hS with hS | rfl
    · exact hI.blt k r v s hS hk ho2
    · rw [hi] at hk; injection hk with hk; subst hk
      rw [ho] at ho2; cases ho2
/-- An operation that ran. -/
theorem Inv.run (c : Ctx P call H0 d0 L d' ops nt g0 w0) (hI : Inv L H0 d0 d' g0 w0 a0 S a w g G) (hf : ∀ t v, d0.T.get t = some v → v.lt d0.nx ∧ t < a0.tmps.size) (hnt : nt ≤ a0.tmps.size) {i : Nat} {ri : Rc} (hi : L[i]? = some ri) (hni : ¬ S i) (hb : ∀ j, ri.x.bef.testBit j = true → S j)
    {v : A} {s : Ev.S} (ho : ri.out = some (v, s)) {u : Value} {w' : World} (hgood : Good (memOf H0 ri.d ri.x) g w v s u w') :
    ∃ g' G', Inv L H0 d0 d' g0 w0 a0 (fun k => S k ∨ k = i) (a.put ri.x.dst u) w' g' G' := by
  obtain ⟨g', ⟨B0, _⟩, hr, hl⟩ := hgood
  have B : Step (· ∈ s.lg) (memOf H0 ri.d ri.x).H.get g ri.d.nx w s.H.get g' s.nx w' := B0
  clear B0
  have hnx := c.ch.nx.2 i ri v s hi ho
  have hlg := c.ch.lg.2 i ri v s hi ho
  obtain ⟨o, _, hal⟩ := c.oper hi
  have hhas : ∀ b, ri.has b ↔ (b ∈ s.lg ∨ (ri.d.nx ≤ b ∧ b < s.nx)) := fun b => ⟨has_or ho, fun h => ⟨v, s, ho, h⟩⟩
  have hnm : ∀ q, Nm L d0.nx S q → ¬ (ri.d.nx ≤ q ∧ q < s.nx) := by
    rintro q (hq | ⟨k, r, v2, s2, h1, h2, h3, h4, h5⟩) ⟨h6, h7⟩
    · have := c.nxle hi; omega
    · have hne : k ≠ i := fun e => hni (e ▸ h1)
      rcases Nat.lt_or_gt_of_ne hne with e | e
      · have := c.later h2 h3 hi e; omega
      · have := c.later hi ho h2 e; omega
  have hfresh : ∀ b, ri.d.nx ≤ b → b < s.nx → G b = none := by
    intro b h1 h2
    rcases hI.mem b with ⟨k, r, v2, s2, m1, m2, m3, m4, m5, m6⟩ | ⟨m1, m2⟩
    · exfalso
      have hne : k ≠ i := fun e => hni (e ▸ m1)
      have hbit := c.ordS hI hi m2 hni m1 ((hhas b).2 (.inr ⟨h1, h2⟩)) m4
      have hlt := c.bitlt i hi hbit
      rcases has_or m3 m4 with m7 | m7
      · have := (c.ch.lg.2 k r v2 s2 m2 m3 b m7).2
        have := (c.ch.nx.2 k r v2 s2 m2 m3).1
        have := c.later m2 m3 hi hlt
        omega
      · have := c.later m2 m3 hi hlt; omega
    · rw [m2]
      cases e : H0.get b with
      | none => rfl
      | some l => have := (c.sim.blk b l e).1; have := c.nxle hi; omega
  have hmix := hI.z.mix B (fun b l hbl => (c.memAt hI hi hni hb ho hbl).1) (c.nxle hi) hnx.2 hfresh (fun b l hG x hx k hk => hnm k (hI.nam b l hG x hx k hk)) (fun b hb => (hlg b hb).1) (fun b hb => (hlg b hb).2)
  have hkeep : ∀ {x : A} {y : Value}, (∀ q ∈ x.names, Nm L d0.nx S q) → RA g w x y → RA (mixG g g' ri.d.nx s.nx) w' x y := by
    intro x y hx h
    refine ra_move (p := fun q => ¬ (ri.d.nx ≤ q ∧ q < s.nx)) (fun b hb => show (mixG g g' ri.d.nx s.nx).m b = g.m b by simp only [mixG]; rw [if_neg hb]) B.dig (fun cc hc hlt => ?_) B.size B.bs (fun q hq => hnm q (hx q hq)) h
    refine B.frame cc hlt fun b _ hk e => ?_
    cases e1 : (memOf H0 ri.d ri.x).H.get b with
    | none => exact hk e1
    | some l =>
      have h1 := (c.memAt hI hi hni hb ho e1).1
      have := (hI.z.sim.blk b l h1).2.2.1
      rw [e] at this; exact this hc
  refine ⟨_, _, hmix, ?_, ?_, ?_, ?_, ?_, ?_, by rw [put_defers]; exact hI.dfr, by rw [put_size]; exact hI.sz⟩
  · intro b
    by_cases hbi : ri.has b
    · refine .inl ⟨i, ri, v, s, .inr rfl, hi, ho, hbi, fun k' r' hlt hS hk' hb' => ?_, by unfold mixM; rw [if_pos ((hhas b).1 hbi)]⟩
      rcases hS with hS | rfl
      · have := c.bitlt i hi (c.ordS hI hi hk' hni hS hbi hb'); omega
      · omega
    · have hG : mixM G s.H.get s.lg ri.d.nx s.nx b = G b := by unfold mixM; rw [if_neg fun h => hbi ((hhas b).2 h)]
      rw [hG]
      rcases hI.mem b with ⟨k, r, v2, s2, m1, m2, m3, m4, m5, m6⟩ | ⟨m1, m2⟩
      · refine .inl ⟨k, r, v2, s2, .inl m1, m2, m3, m4, fun k' r' hlt hS hk' => ?_, m6⟩
        rcases hS with hS | rfl
        · exact m5 k' r' hlt hS hk'
        · rw [hi] at hk'; injection hk' with hk'; subst hk'; exact hbi
      · refine .inr ⟨fun k r hS hk => ?_, m2⟩
        rcases hS with hS | rfl
        · exact m1 k r hS hk
        · rw [hi] at hk; injection hk with hk; subst hk; exact hbi
  · intro b l hG y hy q hq
    by_cases hbi : ri.has b
    · have hG' : s.H.get b = some l := by unfold mixM at hG; rw [if_pos ((hhas b).1 hbi)] at hG; exact hG
      have hq2 : q < s.nx := name_lt.1 ((B.sim.blk b l hG').2.1 y hy) q hq
      rcases c.ch.names c.fp0 hi ho (.inr ⟨b, l, hbi, hG', y, hy, hq⟩) with h | h | ⟨j, r', v', s', _, h2, h3, h4, h5, h6⟩
      · exact .inl h
      · exact .inr ⟨i, ri, v, s, .inr rfl, hi, ho, h, hq2⟩
      · exact .inr ⟨j, r', v', s', .inl (hb j h4), h2, h3, h5, h6⟩
    · have hG' : G b = some l := by unfold mixM at hG; rw [if_neg fun h => hbi ((hhas b).2 h)] at hG; exact hG
      exact (hI.nam b l hG' y hy q hq).mono fun k h => .inl h
  · intro k r t hS hk hd
    rcases hS with hS | rfl
    · have hne : k ≠ i := fun e => hni (e ▸ hS)
      obtain ⟨h1, h2, h3⟩ := hI.new k r t hS hk hd
      rw [put_other a u ((c.stat hk hi hne).2.2 t hd).1]
      exact ⟨hkeep h3 h1, h2, fun q hq => (h3 q hq).mono fun k h => .inl h⟩
    · rw [hi] at hk; injection hk with hk; subst hk
      have hv : ri.val = v := by unfold Rc.val; rw [ho]
      have hhi : ri.hi = s.nx := by unfold Rc.hi; rw [ho]
      have hlt : t < a.tmps.size := by rw [hI.sz]; exact Nat.lt_of_lt_of_le (hal.al.lt t (by rw [← hal.al.dst]; exact hd)) hnt
      rw [hv, hhi, hd, put_same a u hlt]
      refine ⟨ra_move (p := (· < s.nx)) (fun b hb => mix_m B hb) (fun _ h => h) (fun _ _ _ => rfl) (Nat.le_refl _) (fun _ => Nat.le_refl _) (aname_lt.1 hl) hr, hl, fun q hq => ?_⟩
      have hq2 := aname_lt.1 hl q hq
      rcases c.ch.names c.fp0 hi ho (.inl hq) with h | h | ⟨j, r', v', s', _, h2, h3, h4, h5, h6⟩
      · exact .inl h
      · exact .inr ⟨_, ri, v, s, .inr rfl, hi, ho, h, hq2⟩
      · exact .inr ⟨j, r', v', s', .inl (hb j h4), h2, h3, h5, h6⟩
  · intro t x hS ht
    rw [put_other a u (hS i ri (.inr rfl) hi)]
    exact hkeep (fun q hq => .inl (aname_lt.1 (hf t x ht).1 q hq)) (hI.old t x (fun k r h => hS k r (.inl h)) ht)
  · intro k r hS hk j hj
    rcases hS with hS | rfl
    · exact .inl (hI.cl k r hS hk j hj)
    · rw [hi] at hk; injection hk with hk; subst hk
      exact .inl (hb j hj)
  · intro k r v2 s2 hS hk ho2 b l hh hg
    rcases hS with hS | rfl
    · exact hI.blt k r v2 s2 hS hk ho2 b l hh hg
    · rw [hi] at hk; injection hk with hk; subst hk
      rw [ho] at ho2; injection ho2 with ho2; injection ho2 with _ ho2; subst ho2
      obtain ⟨h1, h2, _⟩ := B.sim.blk b l hg
      exact ⟨h1, h2⟩
end
end Go.Ev
end
/- ev: drawn regions, whole. No program. -/
section
namespace Go.Ev
open Go.RowKit Go.Own
variable {P : Program}
theorem cnt_lt {p q : Nat → Bool} : ∀ {l : List Nat} {i : Nat}, i ∈ l → (∀ x, q x = true → p x = true) → p i = true → q i = false → l.countP q < l.countP p
  | [], i, h, _, _, _ => by cases h
  | x :: l, i, h, h1, h2, h3 => by
    have hle : l.countP q ≤ l.countP p := List.countP_mono_left fun x _ hx => h1 x hx
    rw [List.countP_cons, List.countP_cons]
    rcases List.mem_cons.1 h with rfl | h
    · rw [h2, h3]; simp; omega
    · have := cnt_lt h h1 h2 h3
      cases hq : q x with
      | false => simp; omega
      | true => rw [h1 x hq]; simp; omega
section
variable {call : FuncId → List A → S → Rs} {H0 : Tr (List C)} {d0 d' : Dr} {L : List Rc} {ops : Array Oper} {nt : Nat} {g0 : Gh} {w0 : World}
theorem listed_lt {listed : Array Bool} {k : Nat} (h : listed.getD k false = true) : k < listed.size := by
  rcases Nat.lt_or_ge k listed.size with h1 | h1
  · exact h1
  · rw [Array.getD_eq_getD_getElem?, Array.getElem?_eq_none h1] at h; simp at h
theorem Inv.congr {a0 a : Act} {S S' : Nat → Prop} {w : World} {g : Gh} {G : Mem} (h : Inv L H0 d0 d' g0 w0 a0 S a w g G) (e : ∀ k, S k ↔ S' k) : Inv L H0 d0 d' g0 w0 a0 S' a w g G := by
  have : S = S' := funext fun k => propext (e k)
  exact this ▸ h
theorem draw_any {a0 : Act} {ro : Option Nat} {nn : Nat} (c : Ctx P call H0 d0 L d' ops nt g0 w0) (hcall : CallOK P call) (hf : ∀ t v, d0.T.get t = some v → v.lt d0.nx ∧ t < a0.tmps.size) (hnt : nt ≤ a0.tmps.size) {Q : Exit → Act → World → Prop}
    (hQ : ∀ a w g G, Inv L H0 d0 d' g0 w0 a0 (fun k => k < ops.size) a w g G → Q .normal a w) :
    ∀ (fuel : Nat) (listed : Array Bool) (a : Act) (w : World) (g : Gh) (G : Mem), listed.size = ops.size → Inv L H0 d0 d' g0 w0 a0 (fun k => listed.getD k false = true) a w g G → (List.range ops.size).countP (fun i => !listed.getD i false) ≤ fuel → wpAnyIn (Fd ro) nn P .any ops Q fuel listed a w := by
  intro fuel
  -- nothing is ready: all ran
  have hall : ∀ (listed : Array Bool), listed.size = ops.size → (∀ k, k < ops.size → listed.getD k false = true) ∨ ∃ i, i ∈ Region.ready .any ops listed := by
    intro listed hz
    by_cases h : ∀ k, k < ops.size → listed.getD k false = true
    · exact .inl h
    · right
      have h2 : ∃ i, i < ops.size ∧ listed.getD i false = false := by
        apply Classical.byContradiction
        intro hn
        exact h fun k hk => by
          cases e : listed.getD k false with
          | true => rfl
          | false => exact absurd ⟨k, hk, e⟩ hn
      obtain ⟨i0, hi0⟩ := h2
      -- the least one
      obtain ⟨i, hi, hmin⟩ : ∃ i, (i < ops.size ∧ listed.getD i false = false) ∧ ∀ j, j < i → listed.getD j false = true := by
        clear h
        induction i0 using Nat.strongRecOn with
        | _ i0 ih =>
          by_cases h3 : ∀ j, j < i0 → listed.getD j false = true
          · exact ⟨i0, hi0, h3⟩
          · have : ∃ j, j < i0 ∧ listed.getD j false = false := by
              apply Classical.byContradiction
              intro hn
              exact h3 fun j hj => by
                cases e : listed.getD j false with
                | true => rfl
                | false => exact absurd ⟨j, hj, e⟩ hn
            obtain ⟨j, hj, hj2⟩ := this
            exact ih j hj ⟨by omega, hj2⟩
      refine ⟨i, mem_ready.2 ⟨?_, ops[i]'hi.1, by simp [hi.1], fun e he hb => ?_⟩⟩
      · have := hi.2
        rw [Array.getD_eq_getD_getElem?, Array.getElem?_eq_getElem (by omega)] at this ⊢
        simpa using this
      · obtain ⟨r, h1, h2⟩ := c.al i (ops[i]'hi.1) (by simp [hi.1])
        exact hmin e.on (h2.lt e he hb)
  have hdone : ∀ (listed : Array Bool) (a : Act) (w : World) (g : Gh) (G : Mem), listed.size = ops.size → Inv L H0 d0 d' g0 w0 a0 (fun k => listed.getD k false = true) a w g G → (∀ k, k < ops.size → listed.getD k false = true) → Q .normal a w := by
    intro listed a w g G hz hI hd
    exact hQ a w g G (hI.congr fun k => ⟨fun h => by rw [← hz]; exact listed_lt h, hd k⟩)
  induction fuel with
  | zero =>
    intro listed a w g G hz hI hc
    have hd : ∀ k, k < ops.size → listed.getD k false = true := by
      intro k hk
      cases e : listed.getD k false with
      | true => rfl
      | false =>
        have : 0 < (List.range ops.size).countP (fun i => !listed.getD i false) := List.countP_pos_iff.2 ⟨k, List.mem_range.2 hk, by rw [e]; rfl⟩
        omega
    refine ⟨?_, hdone listed a w g G hz hI hd⟩
    rw [List.eq_nil_iff_forall_not_mem]
    intro i hi
    obtain ⟨h1, o, h2, _⟩ := mem_ready.1 hi
    have hlt : i < ops.size := (Array.getElem?_eq_some_iff.1 h2).1
    have := hd i hlt
    rw [Array.getD_eq_getD_getElem?, Array.getElem?_eq_getElem (by omega)] at h1 this
    simp at h1 this
    rw [h1] at this; cases this
  | succ fuel ih =>
    intro listed a w g G hz hI hc
    refine ⟨fun hr => ?_, fun i hi => ?_⟩
    · rcases hall listed hz with h | ⟨i, h⟩
      · exact hdone listed a w g G hz hI h
      · rw [hr] at h; cases h
    · obtain ⟨h1, o, h2, h3⟩ := mem_ready.1 hi
      have hlt : i < ops.size := (Array.getElem?_eq_some_iff.1 h2).1
      obtain ⟨ri, hi2, hal⟩ := c.al i o h2
      have hni : ¬ listed.getD i false = true := by
        rw [Array.getD_eq_getD_getElem?, Array.getElem?_eq_getElem (by omega)] at h1 ⊢
        simp at h1 ⊢
        exact h1
      have hb : ∀ j, ri.x.bef.testBit j = true → listed.getD j false = true := by
        intro j hj
        obtain ⟨e, h4, h5, h6⟩ := hal.bit j hj
        have h7 := h3 e h4 h5
        rcases h6 with h6 | h6
        · rw [← h6]; exact h7
        · have h8 : e.on < L.length := by rw [c.len, ← hz]; exact listed_lt h7
          have h9 : (L.map (·.x.bef)).getD e.on 0 = L[e.on].x.bef := by simp [List.getD_eq_getElem?_getD, h8]
          rw [h9] at h6
          exact hI.cl e.on L[e.on] h7 (by simp [h8]) j h6
      obtain ⟨hci, hw, hrun⟩ := c.ch.at_ hi2
      have hslot : ∀ t v, t ∈ ri.x.reads → ri.d.T.get t = some v → RA g w v (a.tmps.getD t undef) ∧ v.lt ri.d.nx ∧ t < a.tmps.size := fun t v ht hv => c.slotAt hI hf hnt hi2 hni hb ht hv
      have hwant := wanted_rel (g := g) (w := w) (a := a) hal.al hw (fun d v hd hv => by
        have hr : d ∈ ri.x.reads := by
          unfold X.reads
          cases hg : ri.x.grd with
          | none => rw [hg] at hd; cases hd
          | some p => rw [hg] at hd; simp at hd; simp [hd]
        obtain ⟨q1, _, q2⟩ := hslot d v hr hv
        exact ⟨q1, q2⟩)
      -- the set behind it
      have hset : ∀ k, (listed.getD k false = true ∨ k = i) ↔ (listed.setIfInBounds i true).getD k false = true := by
        intro k
        rw [Array.getD_eq_getD_getElem?, Array.getD_eq_getD_getElem?, Array.getElem?_setIfInBounds]
        by_cases e : i = k
        · subst e; simp [hz, hlt]
        · rw [if_neg e]
          constructor
          · rintro (h | h)
            · exact h
            · exact absurd h.symm e
          · exact .inl
      have hcnt : (List.range ops.size).countP (fun j => !(listed.setIfInBounds i true).getD j false) ≤ fuel := by
        have := cnt_lt (p := fun j => !listed.getD j false) (q := fun j => !(listed.setIfInBounds i true).getD j false) (l := List.range ops.size) (List.mem_range.2 hlt) (fun x hx => by
          cases e : listed.getD x false with
          | false => rfl
          | true => rw [(hset x).1 (.inl e)] at hx; cases hx) (by simp [hni]) (by rw [(hset i).1 (.inr rfl)]; rfl)
        omega
      have next : ∀ {S' : Nat → Prop} {a' : Act} {w' : World} {g' : Gh} {G' : Mem}, (∀ k, S' k ↔ (listed.getD k false = true ∨ k = i)) → Inv L H0 d0 d' g0 w0 a0 S' a' w' g' G' → wpAnyIn (Fd ro) nn P .any ops Q fuel (listed.setIfInBounds i true) a' w' := by
        intro S' a' w' g' G' he hI'
        exact ih _ a' w' g' G' (by simpa using hz) (hI'.congr fun k => (he k).trans (hset k)) hcnt
      unfold wpOpIn
      rw [h2]
      cases ho : ri.out with
      | none =>
        rw [ho] at hwant
        simp only
        rw [if_neg (by rw [hwant]; simp), ← hal.al.dst]
        exact ⟨fun _ _ => trivial, next (fun k => Iff.rfl) (hI.skip c hnt hi2 hni hb ho)⟩
      | some p =>
        obtain ⟨v, s⟩ := p
        rw [ho] at hwant
        simp only
        rw [if_pos (by rw [hwant]; rfl)]
        obtain ⟨he, _⟩ := hrun v s ho
        have hE : Env (fun t => t ∈ ri.x.reads) g w (memOf H0 ri.d ri.x).nx ri.d.T a.eval := ⟨fun t x ht hx => ⟨(hslot t x ht hx).1, (hslot t x ht hx).2.1⟩, fun _ => rfl, fun _ => rfl⟩
        have hS : Sim (memOf H0 ri.d ri.x).H.get g (memOf H0 ri.d ri.x).nx w := hI.z.sim.sub fun b l hg => c.memAt hI hi2 hni hb ho hg
        refine wpIn_of_yields (rdy_nodefer hal.al.op) (op_sound hcall hal.al.op he hE (fun t ht => List.mem_append_left _ ht) hS) ?_
        intro u w' hgood
        obtain ⟨g', G', hI'⟩ := hI.run c hf hnt hi2 hni hb ho hgood
        rw [← hal.al.dst]
        exact next (fun k => Iff.rfl) hI'
end
theorem Fr.drew {g : Gh} {w : World} {nx : Nat} {T : Tr A} {a : Act} (h : Fr g w nx T a) : Fr g w.drew nx T a := by
  intro t x ht
  obtain ⟨h1, h2⟩ := h t x ht
  exact ⟨ra_move (p := fun _ => True) (fun _ _ => rfl) (fun _ h => h) (fun _ _ _ => rfl) (Nat.le_refl _) (fun _ => Nat.le_refl _) (fun _ _ => trivial) h1, h2⟩
theorem draw_sound {ro : Option Nat} {nn : Nat} {call : FuncId → List A → S → Rs} (hm : P.follows .mixedOrders = true) (hcall : CallOK P call) {nt id : Nat} {ops : Array Oper} {l : List X} {T T' : Tr A} {s s' : S} {g : Gh} {w : World} {a : Act} {Q : Exit → Act → World → Prop}
    (hl : rdyX P nt ops ops.toList [] = some l) (hst : statOk l = true) (he : evDraw P call s.H s.nx l 0 { T := T, rs := [], fp := [], nx := s.nx, lg := s.lg } = some (T', s')) (hf : Fr g w s.nx T a) (hs : Sim s.H.get g s.nx w) (hnt : nt ≤ a.tmps.size)
    (hQ : ∀ g' a' w', StepS s g w s' g' w' → Fr g' w' s'.nx T' a' → a'.defers = a.defers → a'.tmps.size = a.tmps.size → Q .normal a' w') : (Code.region id ops true).wpIn (Fd ro) nn P Q a w := by
  obtain ⟨h1, h2⟩ := rdyX_al hl
  obtain ⟨L, d', h3, h4, h5⟩ := draw_ch (P := P) (call := call) (H0 := s.H) (d0 := { T := T, rs := [], fp := [], nx := s.nx, lg := s.lg }) (L := []) (d := { T := T, rs := [], fp := [], nx := s.nx, lg := s.lg }) .nil he
  have h4 : L.map (·.x) = l := by simpa using h4
  have hlen : L.length = ops.size := by
    have : (L.map (·.x)).length = l.length := by rw [h4]
    simp at this; rw [this, h1]; simp
  unfold endDraw at h5
  cases hok : fpOk d'.fp with
  | false => rw [hok] at h5; simp at h5
  | true =>
    rw [hok] at h5
    simp only [cond_true] at h5
    injection h5 with h5; injection h5 with h6 h7; subst h6; subst h7
    have hbef : l.map (·.bef) = L.map (·.x.bef) := by rw [← h4]; simp
    have c : Ctx P call s.H { T := T, rs := [], fp := [], nx := s.nx, lg := s.lg } L d' ops nt g w.drew := by
      refine ⟨h3, rfl, rfl, hok, by rw [h4]; exact hst, fun k o hk => ?_, hlen, hs.drew⟩
      obtain ⟨x, h8, h9⟩ := h2 k o (by simpa using hk)
      have hlt := (Array.getElem?_eq_some_iff.1 hk).1
      have hL : L[k]? = some L[k] := by simp [hlen, hlt]
      have hx : L[k].x = x := by
        have : (L.map (·.x))[k]? = some x := by rw [h4]; exact h8
        simpa [hlen, hlt] using this
      refine ⟨L[k], hL, ?_⟩
      rw [hx]
      have h10 := h9
      simp only [List.length_nil, Nat.zero_add, List.nil_append, hbef] at h10
      exact h10
    have hfs : ∀ t v, T.get t = some v → v.lt s.nx ∧ t < a.tmps.size := fun t v h => (hf t v h).2
    refine wpIn_region_any hm ?_
    refine draw_any (a0 := a) c hcall hfs hnt ?_ ops.size (Array.replicate ops.size false) a w.drew g s.H.get (by simp) ?_ ?_
    · intro a' w' g' G hI
      -- what the end says
      have hsub : ∀ b l, (overlay s.H (2 ^ L.length - 1) d'.rs).get b = some l → G b = some l := by
        intro b l hg
        have hbit : ∀ k, k < L.length → (2 ^ L.length - 1).testBit k = true := fun k hk => by rw [Nat.testBit_two_pow_sub_one]; simpa using hk
        rcases h3.over rfl hg with ⟨k, r, v, s2, m1, m2, m3, m4, m5, m6⟩ | ⟨m1, m2⟩
        · have hk := get_lt m1
          rcases hI.mem b with ⟨k2, r2, v2, s3, n1, n2, n3, n4, n5, n6⟩ | ⟨n1, n2⟩
          · have hk2 := get_lt n2
            have : k2 = k := by
              rcases Nat.lt_trichotomy k2 k with e | e | e
              · exact absurd m3 (n5 k r e (by omega) m1)
              · exact e
              · exact absurd n4 (m6 k2 r2 e n2 (hbit k2 hk2))
            subst this
            rw [n2] at m1; injection m1 with m1; subst m1
            rw [n3] at m4; injection m4 with m4; injection m4 with _ m4; subst m4
            rw [n6]; exact m5
          · exact absurd m3 (n1 k r (by omega) m1)
        · rcases hI.mem b with ⟨k2, r2, v2, s3, n1, n2, n3, n4, n5, n6⟩ | ⟨n1, n2⟩
          · exact absurd n4 (m1 k2 r2 n2 (hbit k2 (get_lt n2)))
          · rw [n2]; exact m2
      have hst1 : Step (· ∈ d'.lg) s.H.get g s.nx w s.H.get g s.nx w.drew := drew_step hs
      have hst2 := hI.z.trans hs.drew (hI.z.sim.less_step (W := (· ∈ d'.lg)) hsub) (fun _ h => h)
      refine hQ g' a' w' ⟨hst1.trans hs hst2 (fun _ h => h), h3.lg.1⟩ ?_ hI.dfr hI.sz
      intro t x ht
      rcases h3.slot ht with ⟨j, r, q1, q2, rfl⟩ | ⟨q1, q2⟩
      · obtain ⟨q3, q4, _⟩ := hI.new j r t (by have := get_lt q1; omega) q1 q2
        obtain ⟨o, _, hal⟩ := c.oper q1
        refine ⟨q3, ?_, by rw [hI.sz]; exact Nat.lt_of_lt_of_le (hal.al.lt t (by rw [← hal.al.dst]; exact q2)) hnt⟩
        cases ho : r.out with
        | none => unfold Rc.val; rw [ho]; exact (undef_rel g' w' _).2
        | some p =>
          obtain ⟨q, s2⟩ := p
          refine alt_mono ?_ q4
          unfold Rc.hi; rw [ho]
          exact (h3.nx.2 j r q s2 q1 ho).2
      · refine ⟨hI.old t x (fun k r _ hk => q1 k r hk) q2, alt_mono h3.nx.1 (hf t x q2).2.1, by rw [hI.sz]; exact (hf t x q2).2.2⟩
    · have hno : ∀ k, ¬ (Array.replicate ops.size false).getD k false = true := by
        intro k hk
        rw [Array.getD_eq_getD_getElem?, Array.getElem?_replicate] at hk
        split at hk <;> simp at hk
      have hle := h3.nx.1
      have hsim : Sim s.H.get g d'.nx w.drew := ⟨fun b l hb => by
        obtain ⟨q1, q2, q3⟩ := hs.drew.blk b l hb
        exact ⟨Nat.lt_of_lt_of_le q1 hle, fun x hx => lt_mono hle (q2 x hx), q3⟩, hs.inj, hs.dsz⟩
      refine { z := { (hs.drew.rfl_step (· ∈ d'.lg)) with sim := hsim, mono := hle }, mem := fun b => .inr ⟨fun k r h => absurd h (hno k), rfl⟩, nam := fun b l hb y hy q hq => .inl (name_lt.1 ((hs.blk b l hb).2.1 y hy) q hq), new := fun k r t h => absurd h (hno k), old := fun t v _ ht => (hf.drew t v ht).1, cl := fun k r h => absurd h (hno k), blt := fun k r v s2 h => absurd h (hno k), dfr := rfl, sz := rfl }
    · exact Nat.le_trans (List.countP_le_length) (by simp)
end Go.Ev
end
/- ev: calls: how they begin and end. No program. -/
section
namespace Go.Ev
open Go.RowKit Go.Own
variable {P : Program}
theorem argsT_get : ∀ {l : List A} {i t : Nat} {x : A}, (argsT i l).get t = some x → i ≤ t ∧ l[t - i]? = some x
  | [], i, t, x, h => by simp [argsT, Tr.get_e] at h
  | a :: l, i, t, x, h => by
    simp only [argsT] at h
    rcases Tr.get_set _ _ _ _ _ _ h with ⟨rfl, h2⟩ | ⟨h1, h2⟩
    · injection h2 with h2; subst h2
      exact ⟨Nat.le_refl _, by simp⟩
    · obtain ⟨h3, h4⟩ := argsT_get h2
      refine ⟨by omega, ?_⟩
      have e : t - i = (t - (i + 1)) + 1 := by omega
      rw [e, List.getElem?_cons_succ]; exact h4
theorem args_fr {g : Gh} {w : World} {nx n : Nat} {args : List A} {vals : List Value} (h : All2 (RA g w) args vals) (hl : ∀ a ∈ args, a.lt nx) :
    Fr g w nx (argsT 0 args) { tmps := vals.toArray ++ Array.replicate (n - vals.toArray.size) undef, defers := [] } := by
  intro t x ht
  obtain ⟨_, h2⟩ := argsT_get ht
  simp only [Nat.sub_zero] at h2
  obtain ⟨v, h3, h4⟩ := h.get h2
  have hlt : t < vals.length := (List.getElem?_eq_some_iff.1 h3).1
  refine ⟨?_, hl x (List.mem_of_getElem? h2), by simp; omega⟩
  have : (vals.toArray ++ Array.replicate (n - vals.toArray.size) undef).getD t undef = v := by
    rw [Array.getD_eq_getD_getElem?, Array.getElem?_append_left (by simpa using hlt)]
    simp [h3]
  rw [this]; exact h4
theorem Step.weak' {W W' : Nat → Prop} {K K' : Mem} {g g' : Gh} {nx nx' : Nat} {w w' : World} (h : Step W K g nx w K' g' nx' w') (hW : ∀ b, W b → K b ≠ none → W' b) : Step W' K g nx w K' g' nx' w' :=
  { h with
    frame := fun c hc hb => h.frame c hc fun b hw hk => hb b (hW b hw hk) hk
    img := fun b hn hb => by
      rcases h.img b hn hb with ⟨b0, h0, h3, h4⟩ | h3
      · exact .inl ⟨b0, hW b0 h0 h3, h3, h4⟩
      · exact .inr h3 }
theorem mem_old {n k : Nat} : ∀ {l : List Nat}, k ∈ oldOf n l ↔ k ∈ l ∧ k < n
  | [] => by simp [oldOf]
  | x :: l => by
    simp only [oldOf]
    split
    · rename_i h
      have h : x < n := by simpa using h
      simp only [List.mem_cons, mem_old]
      constructor
      · rintro (rfl | ⟨h1, h2⟩)
        · exact ⟨.inl rfl, h⟩
        · exact ⟨.inr h1, h2⟩
      · rintro ⟨rfl | h1, h2⟩
        · exact .inl rfl
        · exact .inr ⟨h1, h2⟩
    · rename_i h
      have h : ¬ x < n := fun h2 => by
        have e : Nat.blt x n = true := by rw [Nat.blt_eq]; exact h2
        rw [h] at e; cases e
      simp only [mem_old, List.mem_cons]
      constructor
      · rintro ⟨h1, h2⟩; exact ⟨.inr h1, h2⟩
      · rintro ⟨rfl | h1, h2⟩
        · exact absurd h2 h
        · exact ⟨h1, h2⟩
theorem free_names {x : C} (h : x.free = true) : x.name = [] := by
  cases x with
  | fn f caps => cases caps with
    | nil => rfl
    | cons p l => simp [C.free] at h
  | ptr k o => simp [C.free] at h
  | sl k o l c u => simp [C.free] at h
  | _ => rfl
theorem vfree_names {x : V} (h : x.free = true) : x.names = [] := by
  cases x with
  | c x => exact free_names h
  | agg l =>
    simp only [V.free, List.all_eq_true] at h
    simp only [V.names, List.flatMap_eq_nil_iff]
    exact fun y hy => free_names (h y hy)
theorem afree_names {x : A} (h : x.free = true) : x.names = [] := by
  cases x with
  | v x => exact vfree_names h
  | tup l =>
    simp only [A.free, List.all_eq_true] at h
    simp only [A.names, List.flatMap_eq_nil_iff]
    exact fun y hy => vfree_names (h y hy)
section
variable {s s1 : S} {g g1 : Gh} {w w1 : World} {v : A} {u : Value}
/-- Nothing that was there was turned: what the call made is let go. -/
theorem let_go (hs : Sim s.H.get g s.nx w) (B : Step (· ∈ s1.lg) s.H.get g s.nx w s1.H.get g1 s1.nx w1) (ho : oldOf s.nx s1.lg = []) : Step (· ∈ s.lg) s.H.get g s.nx w s.H.get (g.gone g1 w w1) s.nx w1 := by
  have hno : ∀ b, b ∈ s1.lg → s.H.get b ≠ none → False := by
    intro b hb hk
    cases e : s.H.get b with
    | none => exact hk e
    | some l =>
      have : b ∈ oldOf s.nx s1.lg := mem_old.2 ⟨hb, (hs.blk b l e).1⟩
      rw [ho] at this; cases this
  refine hs.gone_step (fun c hc => ?_) (fun c hc => B.frame c hc fun b hb hk _ => (hno b hb hk).elim) B.size B.os B.tape B.output
  rcases B.dnew c hc with h | h
  · exact .inl h
  · exact .inr ⟨h, B.sim.dsz c hc⟩
theorem end_good (hs : Sim s.H.get g s.nx w) (B : Step (· ∈ s1.lg) s.H.get g s.nx w s1.H.get g1 s1.nx w1) (hr : RA g1 w1 v u) (hl : v.lt s1.nx) {r : A} {s' : S} (he : endCall s v s1 (oldOf s.nx s1.lg) = some (r, s')) : Good s g w r s' u w1 := by
  unfold endCall at he
  split at he
  · rename_i h1 h2
    injection he with he; injection he with e1 e2; subst e1; subst e2
    have hn := afree_names h2
    refine ⟨g.gone g1 w w1, ⟨let_go hs B h1, fun _ h => h⟩, ?_, aname_lt.2 (by rw [hn]; intro b hb; cases hb)⟩
    exact ra_move (p := fun _ => False) (fun _ h => h.elim) (fun c hc => show (g.gone g1 w w1).D c from .inr (.inl hc)) (fun _ _ _ => rfl) (Nat.le_refl _) (fun _ => Nat.le_refl _) (by rw [hn]; intro b hb; cases hb) hr
  · injection he with he; injection he with e1 e2; subst e1; subst e2
    refine ⟨g1, ⟨B.weak' fun b hb hk => ?_, fun b hb => List.mem_append_right _ hb⟩, hr, hl⟩
    cases e : s.H.get b with
    | none => exact absurd e hk
    | some l => exact List.mem_append_left _ (mem_old.2 ⟨hb, (hs.blk b l e).1⟩)
theorem digC_or (H : Tr (List C)) (nx : Nat) (x : C) : digC H nx x = x ∨ ∃ b cap n, x = .sl b 0 1 cap 1 ∧ nx ≤ b ∧ (∃ l, H.get b = some (.i .i64 (Int.ofNat n) :: l)) ∧ 0 < n ∧ n < 1000000000 ∧ digC H nx x = .dig n := by
  unfold digC
  split
  · rename_i b cap
    split
    · rename_i n l h1 h2
      split
      · rename_i hn
        exact .inr ⟨b, cap, n, rfl, Nat.le_of_ble_eq_true h1, ⟨_, h2⟩, hn.1, hn.2, rfl⟩
      · exact .inl rfl
    · exact .inl rfl
  · exact .inl rfl
theorem digC_rel (hs : Sim s.H.get g s.nx w) (B : Step (· ∈ s1.lg) s.H.get g s.nx w s1.H.get g1 s1.nx w1) (ho : oldOf s.nx s1.lg = []) {x : C} {y : Value} (hr : RC g1 w1 x y) (hf : (digC s1.H s.nx x).free = true) : RC (g.gone g1 w w1) w1 (digC s1.H s.nx x) y := by
  rcases digC_or s1.H s.nx x with e | ⟨b, cap, n, rfl, h1, ⟨l0, h2⟩, hn1, hn2, e⟩
  · rw [e] at hf ⊢
    exact rc_move (p := fun _ => False) (fun _ h => h.elim) (fun c hc => show (g.gone g1 w w1).D c from .inr (.inl hc)) (fun _ _ _ => rfl) (Nat.le_refl _) (fun _ => Nat.le_refl _) (by rw [free_names hf]; intro b hb; cases hb) hr
  · rw [e]
    obtain ⟨cap', ⟨k1, _⟩, k2, k3, k4⟩ := hr
    obtain ⟨_, _, _, cs, t, h4, h5, h6⟩ := B.sim.blk b _ h2
    obtain ⟨z, h7, h8⟩ := h6 0 _ rfl
    have hB : Blk w1 (g1.m b) cs.toList t := by unfold Blk; rw [h4]
    have hge : w.heap.size ≤ g1.m b := by
      rcases B.img b h1 (by rw [h2]; simp) with ⟨b0, c1, c2, _⟩ | c1
      · exfalso
        cases e : s.H.get b0 with
        | none => exact c2 e
        | some l =>
          have : b0 ∈ oldOf s.nx s1.lg := mem_old.2 ⟨c1, (hs.blk b0 l e).1⟩
          rw [ho] at this; cases this
      · exact c1
    refine ⟨hn2, .inr ⟨hn1, g1.m b, 0, cap', k4, k1, k2, .inr (.inr ⟨hge, hB.lt⟩), hB.lt, ?_⟩⟩
    have hz : z = .int .i64 (n : Int) := h8
    exact hB.cell (by simpa [hz] using h7)
theorem digV_rel (hs : Sim s.H.get g s.nx w) (B : Step (· ∈ s1.lg) s.H.get g s.nx w s1.H.get g1 s1.nx w1) (ho : oldOf s.nx s1.lg = []) {x : V} {y : Value} (hr : RV1 g1 w1 x y) (hf : (digV s1.H s.nx x).free = true) : RV1 (g.gone g1 w w1) w1 (digV s1.H s.nx x) y := by
  cases x with
  | c x => exact digC_rel hs B ho hr hf
  | agg l =>
    obtain ⟨cs, rfl, h⟩ := hr
    refine ⟨cs, rfl, ?_⟩
    simp only [digV, V.free, List.all_map, List.all_eq_true] at hf
    have : ∀ {l : List C} {cs : List Value}, (∀ x ∈ l, (digC s1.H s.nx x).free = true) → All2 (RC g1 w1) l cs → All2 (RC (g.gone g1 w w1) w1) (l.map (digC s1.H s.nx)) cs := by
      intro l
      induction l with
      | nil => intro cs _ h; cases cs with
        | nil => trivial
        | cons => exact h.elim
      | cons a l ih => intro cs hf h; cases cs with
        | nil => exact h.elim
        | cons b cs => exact ⟨digC_rel hs B ho h.1 (hf a (by simp)), ih (fun x hx => hf x (by simp [hx])) h.2⟩
    exact this hf h
theorem digA_rel (hs : Sim s.H.get g s.nx w) (B : Step (· ∈ s1.lg) s.H.get g s.nx w s1.H.get g1 s1.nx w1) (ho : oldOf s.nx s1.lg = []) {x : A} {y : Value} (hr : RA g1 w1 x y) (hf : (digA s1.H s.nx x).free = true) : RA (g.gone g1 w w1) w1 (digA s1.H s.nx x) y := by
  cases x with
  | v x => exact digV_rel hs B ho hr hf
  | tup l =>
    obtain ⟨cs, rfl, h⟩ := hr
    refine ⟨cs, rfl, ?_⟩
    simp only [digA, A.free, List.all_map, List.all_eq_true] at hf
    have : ∀ {l : List V} {cs : List Value}, (∀ x ∈ l, (digV s1.H s.nx x).free = true) → All2 (RV1 g1 w1) l cs → All2 (RV1 (g.gone g1 w w1) w1) (l.map (digV s1.H s.nx)) cs := by
      intro l
      induction l with
      | nil => intro cs _ h; cases cs with
        | nil => trivial
        | cons => exact h.elim
      | cons a l ih => intro cs hf h; cases cs with
        | nil => exact h.elim
        | cons b cs => exact ⟨digV_rel hs B ho h.1 (hf a (by simp)), ih (fun x hx => hf x (by simp [hx])) h.2⟩
    exact this hf h
theorem dig_good (hs : Sim s.H.get g s.nx w) (B : Step (· ∈ s1.lg) s.H.get g s.nx w s1.H.get g1 s1.nx w1) (hr : RA g1 w1 v u) (hl : v.lt s1.nx) {dig : Bool} {r : A} {s' : S} (he : digEnd dig s v s1 (oldOf s.nx s1.lg) = some (r, s')) : Good s g w r s' u w1 := by
  unfold digEnd at he
  split at he
  · rename_i h1 h2
    injection he with he; injection he with e1 e2; subst e1; subst e2
    have hn := afree_names h2
    exact ⟨g.gone g1 w w1, ⟨let_go hs B h1, fun _ h => h⟩, digA_rel hs B h1 hr h2, aname_lt.2 (by rw [hn]; intro b hb; cases hb)⟩
  · exact end_good hs B hr hl he
end
/-- Results. -/
def resM (tmps : Array Value) : ResultVar → Sem Value
  | .tmp t => pure (tmps.getD t undef)
  | .cell b t => do loadVar t (← asAddr (tmps.getD b undef))
theorem results_eq (fn : Func) (tmps : Array Value) : results fn tmps = (fn.results.mapM (resM tmps) >>= fun vs => pure (if h : vs.size = 1 then vs[0] else .tuple vs)) := by
  unfold results
  congr 1
theorem res_rel {g : Gh} {w : World} {s : S} {T : Tr A} {a : Act} (hf : Fr g w s.nx T a) (hs : Sim s.H.get g s.nx w) : ∀ {rs : List ResultVar} {q : List RV} {l : List A}, rdyR P rs = some q → resA T s q = some l →
    ∃ vs : List Value, (rs.mapM (resM a.tmps)).run P w = .ok vs w ∧ All2 (RA g w) l vs ∧ ∀ x ∈ l, x.lt s.nx
  | [], q, l, h1, h2 => by
    simp only [rdyR] at h1
    injection h1 with h1; subst h1
    simp only [resA] at h2
    injection h2 with h2; subst h2
    exact ⟨[], by simp, trivial, fun x hx => by cases hx⟩
  | .tmp t :: rs, q, l, h1, h2 => by
    simp only [rdyR, Option.map_eq_some_iff] at h1
    obtain ⟨q', h3, rfl⟩ := h1
    simp only [resA] at h2
    split at h2
    · rename_i v l' h4 h5
      injection h2 with h2; subst h2
      obtain ⟨vs, h6, h7, h8⟩ := res_rel hf hs h3 h5
      obtain ⟨h9, h10, _⟩ := hf t v h4
      refine ⟨a.tmps.getD t undef :: vs, ?_, ⟨h9, h7⟩, fun x hx => ?_⟩
      · rw [List.mapM_cons, Sem.run_bind]
        simp only [resM, Sem.run_pure, Result.andThen_ok]
        rw [Sem.run_bind, h6]; simp
      · rcases List.mem_cons.1 hx with rfl | hx
        · exact h10
        · exact h8 x hx
    · cases h2
  | .cell b t :: rs, q, l, h1, h2 => by
    simp only [rdyR] at h1
    split at h1
    · rename_i ag n q' h3 h4 h5
      injection h1 with h1; subst h1
      simp only [resA] at h2
      split at h2
      · rename_i v s2 l' h6 h7
        injection h2 with h2; subst h2
        obtain ⟨vs, h8, h9, h10⟩ := res_rel hf hs h5 h7
        have key : ∃ p y, a.tmps.getD b undef = .pointer (some p) ∧ (loadVar t p).run P w = .ok y w ∧ RA g w v y ∧ v.lt s.nx := by
          unfold kLd at h6
          split at h6
          · rename_i k off h11
            obtain ⟨h12, _⟩ := hf b _ h11
            split at h6
            · rename_i l2 h13
              obtain ⟨h14, _⟩ := mv_same h6
              obtain ⟨y, h15, h16, h17⟩ := run_part hs h13 h3 h4 h14
              exact ⟨_, y, h12, h15, h16, h17⟩
            · cases h6
          · rename_i d h11
            obtain ⟨⟨c, off, h12, h13, h14, h15⟩, _⟩ := hf b _ h11
            split at h6
            · injection h6 with h6; injection h6 with h6 _; subst h6
              exact ⟨_, .int .i64 d, h12, by simp [loadVar, Sem.run_bind, run_agg h3, h15], rfl, trivial⟩
            · cases h6
          · cases h6
        obtain ⟨p, y, c1, c2, c3, c4⟩ := key
        refine ⟨y :: vs, ?_, ⟨c3, h9⟩, fun x hx => ?_⟩
        · rw [List.mapM_cons, Sem.run_bind]
          have : (resM a.tmps (.cell b t)).run P w = .ok y w := by
            simp only [resM]
            rw [Sem.run_bind, c1]; simp [asAddr, c2]
          rw [this]
          simp only [Result.andThen_ok]
          rw [Sem.run_bind, h8]; simp
        · rcases List.mem_cons.1 hx with rfl | hx
          · exact c4
          · exact h10 x hx
      · cases h2
    · cases h1
theorem vsOf_rel {g : Gh} {w : World} {n : Nat} : ∀ {l : List A} {q : List V} {vs : List Value}, vsOf l = some q → All2 (RA g w) l vs → (∀ x ∈ l, x.lt n) → All2 (RV1 g w) q vs ∧ ∀ x ∈ q, x.lt n
  | [], q, vs, h, h2, _ => by
    simp only [vsOf] at h
    injection h with h; subst h
    cases vs with
    | nil => exact ⟨trivial, fun x hx => by cases hx⟩
    | cons => exact h2.elim
  | .v x :: l, q, vs, h, h2, h3 => by
    simp only [vsOf] at h
    split at h
    · rename_i q' h4
      injection h with h; subst h
      cases vs with
      | nil => exact h2.elim
      | cons y vs =>
        obtain ⟨h5, h6⟩ := vsOf_rel h4 h2.2 (fun z hz => h3 z (by simp [hz]))
        refine ⟨⟨h2.1, h5⟩, fun z hz => ?_⟩
        rcases List.mem_cons.1 hz with rfl | hz
        · exact h3 (.v z) (by simp)
        · exact h6 z hz
    · cases h
  | .tup _ :: l, q, vs, h, _, _ => by simp [vsOf] at h
theorem results_rel {g : Gh} {w : World} {s : S} {T : Tr A} {a : Act} {fn : Func} {q : List RV} {v : A} (hf : Fr g w s.nx T a) (hs : Sim s.H.get g s.nx w) (h1 : rdyR P fn.results.toList = some q) (h2 : resultsA T s q = some v) :
    ∃ u, (results fn a.tmps).run P w = .ok u w ∧ RA g w v u ∧ v.lt s.nx := by
  unfold resultsA at h2
  have hrun : ∀ {vs : List Value}, (fn.results.toList.mapM (resM a.tmps)).run P w = .ok vs w →
      (results fn a.tmps).run P w = .ok (if h : vs.toArray.size = 1 then vs.toArray[0] else .tuple vs.toArray) w := by
    intro vs h
    rw [results_eq, Array.mapM_eq_mapM_toList, Sem.run_bind]
    have : (List.toArray <$> fn.results.toList.mapM (resM a.tmps)).run P w = .ok vs.toArray w := by
      rw [map_eq_pure_bind, Sem.run_bind, h]; simp
    rw [this]; simp
  split at h2
  · rename_i x h3
    injection h2 with h2; subst h2
    obtain ⟨vs, h4, h5, h6⟩ := res_rel hf hs h1 h3
    cases vs with
    | nil => exact h5.elim
    | cons y vs => cases vs with
      | cons => exact h5.2.elim
      | nil => exact ⟨y, by rw [hrun h4]; simp, h5.1, h6 x (by simp)⟩
  · rename_i l hne h3
    split at h2
    · rename_i q2 h4
      injection h2 with h2; subst h2
      obtain ⟨vs, h5, h6, h7⟩ := res_rel hf hs h1 h3
      obtain ⟨h8, h9⟩ := vsOf_rel h4 h6 h7
      refine ⟨.tuple vs.toArray, ?_, ⟨vs, rfl, h8⟩, h9⟩
      rw [hrun h5, dif_neg]
      intro e
      simp at e
      have := h6.length
      rw [e] at this
      obtain ⟨x, rfl⟩ := List.length_eq_one_iff.1 this
      exact hne x rfl
    · cases h2
  · cases h2
end Go.Ev
end
